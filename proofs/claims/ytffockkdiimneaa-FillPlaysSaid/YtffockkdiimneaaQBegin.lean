/-
  The reference's Begin. No conditions.
-/
import Derived.Test.YtffockkdiimneaaQAppend
import Derived.Deep.RegionHeld3
namespace Go.Proofs.Ytffockkdiimneaa
open Go.RowKit
set_option linter.unusedVariables false
set_option linter.unusedSimpArgs false

theorem findN_first {name : ByteArray} : ∀ {js : List (Nat × Job)} {k : Nat} {e : Nat × Job}, js[k]? = some e → e.2.name = name → e.2.state = 0 → (∀ (j : Nat) (x : Nat × Job), j < k → js[j]? = some x → ¬ (x.2.name = name ∧ x.2.state = 0)) → findN name js = some k
  | [], k, e, h, _, _, _ => by simp at h
  | x :: r, 0, e, h, h1, h2, _ => by
    simp at h; subst h
    simp [findN, h1, h2]
  | x :: r, k + 1, e, h, h1, h2, hn => by
    have h0 := hn 0 x (by omega) rfl
    have := findN_first (js := r) (k := k) (by simpa using h) h1 h2 (fun j y hj hy => hn (j + 1) y (by omega) (by simpa using hy))
    unfold findN
    rw [if_neg h0, this]; rfl
theorem findN_nowhere {name : ByteArray} : ∀ {js : List (Nat × Job)}, (∀ (j : Nat) (x : Nat × Job), js[j]? = some x → ¬ (x.2.name = name ∧ x.2.state = 0)) → findN name js = none
  | [], _ => rfl
  | x :: r, hn => by
    have h0 := hn 0 x rfl
    have := findN_nowhere (js := r) (fun j y hj => hn (j + 1) y (by simpa using hj))
    unfold findN
    rw [if_neg h0, this]; rfl
theorem name_list {a b : ByteArray} (h : a.toList = b.toList) : a = b := by
  rw [ByteArray.toList_eq, ByteArray.toList_eq] at h
  exact ByteArray.ext (Array.toList_inj.mp h)
theorem step_append_own_at {P : Program} (w : World) {ops : Array Oper} {o : Oper} {a : Act} {K : Act → World → Prop} {Q : Exit → Act → World → Prop} {E : Prop} (hgd : o.guard = none) (s x : Operand) (t : TypeId)
    (ho : o.op = .call { callee := .builtin .append, args := #[s, x], argTypes := #[t, t] })
    (base : Nat) (e : TypeId) (i : TypeInfo) (z : Value) (size bytes : Nat) (ht : P.underlying t = some (.slice e)) (hi : P.info? e = some i) (hz : i.zero = some z)
    (hsize : i.size = size) (hby : i.bytes = bytes) (hzs : z.cells.size = size) (hsz : 0 < size)
    (v : Value) (n : Nat) (xs : List Value) (hs : a.eval s = v) (hown : w.ownsRow base e size v n xs)
    (ad : Addr) (m c : Nat) (news : List Value) (hx : a.eval x = .slice (some ad) m c) (hl : news.length = m * size) (hnews : ∀ j u, news[j]? = some u → w.cell? (ad.add j) = some u) (h1 : ∀ u ∈ news, u.oneCell' = true)
    (h63 : n + m ≤ maxLen) (hbytes : (n + m) * bytes ≤ 140737488355328) (hbase : base ≤ w.heap.size)
    (h : ∀ v' w', w'.ownsRow base e size v' (n + m) (xs ++ news) → w.grownBy w' v.ownBlock → (v'.ownBlock = v.ownBlock ∨ v'.ownBlock = some w.heap.size) → K (a.put o.dst v') w') :
    if Region.wanted o (yielded ops a.tmps) = true then Oper.wp P o a w K Q else E := by
  have hw : Region.wanted o (yielded ops a.tmps) = true := by simp [Region.wanted, hgd]
  rw [if_pos hw]
  obtain ⟨v', w', hr, h2, h3, _, h4⟩ := run_append_own_at (P := P) w base t o.type e i z size bytes ht hi hz hsize hby hzs hsz v n xs hown ad m c news hl hnews h1 h63 hbytes hbase
  unfold Oper.wp execOp
  simp only [ho, resolve, invoke, builtin, Sem.run_bind, Sem.run_pure, Result.andThen_ok, List.map_toArray, List.map_cons, List.map_nil, hs, hx, hr]
  exact h v' w' h2 h3 h4
theorem news_blk5 {w : World} {g : Nat} {a b c d f : Value} {e : TypeId} (h : w.heap[g]? = some (.cells #[a, b, c, d, f] e (0, 0))) : ∀ (j : Nat) (u : Value), [a, b, c, d, f][j]? = some u → w.cell? ((⟨g, 0, none⟩ : Addr).add j) = some u := fun j u hu => by
  rw [Addr.add_lit, blk_cell h, Nat.zero_add]
  simpa using hu
theorem five_one {a b c d f : Value} (h1 : a.oneCell' = true) (h2 : b.oneCell' = true) (h3 : c.oneCell' = true) (h4 : d.oneCell' = true) (h5 : f.oneCell' = true) : ∀ u ∈ [a, b, c, d, f], u.oneCell' = true := by
  intro u hu
  simp only [List.mem_cons, List.not_mem_nil, or_false] at hu
  rcases hu with rfl | rfl | rfl | rfl | rfl
  · exact h1
  · exact h2
  · exact h3
  · exact h4
  · exact h5
theorem cell_off {w : World} {g i j : Nat} (h : i ≠ j) (u : Value) : (w.setCell ⟨g, j, none⟩ u).cell? ⟨g, i, none⟩ = w.cell? ⟨g, i, none⟩ := World.cell?_setCell_other _ _ _ _ (fun e => h (by simpa using e.symm))
section
variable {w : World} {M : QMem} {d : Desk}
theorem new_row {w1 w3 : World} (h : QAt w M d) (hq : Quiet w w1) {v' : Value} {name : ByteArray} (hsm : ¬ 1024 ≤ d.js.length) (hown : w3.ownsRow 0 73 5 v' (M.ys.length + 1) (qflat M.ys ++ [.int .i64 (d.last : Nat), .int .i64 0, .int .i64 1, .string name, .slice none 0 0])) (hg : w1.grownBy w3 M.v.ownBlock) (hv : v'.ownBlock = M.v.ownBlock ∨ v'.ownBlock = some w1.heap.size) :
    QPost M w ⟨d.js ++ [(d.last, ⟨name, [], 0, 1⟩)], d.last⟩ (w3.setCell ⟨M.p, 0, none⟩ v') := by
  have e : (⟨d.js ++ [(d.last, ⟨name, [], 0, 1⟩)], d.last⟩ : Desk) = ⟨(M.ys ++ [((⟨none, 0⟩ : QRow), (d.last, (⟨name, [], 0, 1⟩ : Job)))]).map (·.2), d.last⟩ := by rw [h.js]; simp
  rw [e]
  have hl := h.len
  obtain ⟨h1, h2⟩ := h.row (w1 := w1) (w3 := w3) (v' := v') (ys' := M.ys ++ [((⟨none, 0⟩ : QRow), (d.last, (⟨name, [], 0, 1⟩ : Job)))]) (last' := d.last) (F := fun k => M.v.ownBlock = some k) hq (fun k hk => .inl hk) ((Only.refl _ w1).of_grown hg (fun k hk _ => hk))
    (by rw [List.length_append, qflat_app]; exact hown) (fun k hk => by
      rcases hv with e | e
      · rw [e] at hk; exact .inl hk
      · rw [e] at hk; obtain rfl := Option.some.inj hk; exact .inr hq.size)
    (fun y hy => by
      rcases List.mem_append.1 hy with hy | hy
      · exact .inl hy
      · obtain rfl := List.mem_singleton.1 hy; exact .inr ⟨rfl, rfl, rfl⟩)
    (fun i j y z hij hy hz k hk hk' => by
      have key : ∀ (i : Nat) (y : QF), (M.ys ++ [((⟨none, 0⟩ : QRow), (d.last, (⟨name, [], 0, 1⟩ : Job)))])[i]? = some y → RowOf y.1.A k → M.ys[i]? = some y := fun i y hy hk => by
        rw [List.getElem?_append] at hy
        split at hy
        · exact hy
        · obtain rfl := List.mem_singleton.1 (List.mem_of_getElem? hy)
          obtain ⟨a, e, _⟩ := hk; cases e
      exact h.apart i j y z hij (key i y hy hk) (key j z hz hk') k hk hk')
    (by rw [List.length_append]; simp; omega) rfl
  exact ⟨_, h1, h2⟩
set_option maxRecDepth 8000 in
set_option maxHeartbeats 8000000 in
theorem qbegin_big (h : QAt w M d) (name : ByteArray) (hb : 1024 < name.size) :
    Calls Try.prog 17 #[.pointer (some ⟨M.p, 0, none⟩), .string name] w fun x w' => x = .returned (.tuple #[.int .i64 0, .bool false, .int .i64 3]) ∧ Quiet w w' := by
  have d1 : decide ((1024 : Int) < (name.size : Int)) = true := by simp; omega
  clear h
  go_enter Try.func17, Try.ntmps17
  go_wp2_with fail
  go_ret3
  exact ⟨rfl, Only.refl _ _⟩
theorem qbegin_post {w wr w4 w5 : World} {M : QMem} {d : Desk} {L : Nat} {name : ByteArray} (hq : Quiet w wr) (hs : QStep wr w4 M M) (hL : L = d.last) (h : QPost M w4 ⟨d.js ++ [(L + 1, ⟨name, [], 0, 1⟩)], L + 1⟩ w5) : QPost M w ⟨d.js ++ [(d.last + 1, ⟨name, [], 0, 1⟩)], d.last + 1⟩ w5 := by
  subst hL
  obtain ⟨M', h1, h2⟩ := h
  exact ⟨M', h1, (QStep.after hq hs).trans h2⟩
def BRel (w : World) (js : List (Nat × Job)) (name : ByteArray) (n : Nat) (vi : Value) (wr : World) : Prop := ∃ k, k ≤ n ∧ vi = .int .i64 (k : Nat) ∧ (∀ (j : Nat) (x : Nat × Job), j < k → js[j]? = some x → ¬ (x.2.name = name ∧ x.2.state = 0)) ∧ Quiet w wr
set_option maxRecDepth 8000 in
set_option maxHeartbeats 8000000 in
theorem qbegin_ok (h : QAt w M d) (name : ByteArray) (hb : ¬ 1024 < name.size) (hlast : d.last < 4611686018427387904) (hpart : ∀ e ∈ d.js, e.2.part < 4611686018427387904) :
    Calls Try.prog 17 #[.pointer (some ⟨M.p, 0, none⟩), .string name] w fun x w' => x = .returned (.tuple #[.int .i64 (beginF d name).1, .bool (beginF d name).2.1, .int .i64 (beginF d name).2.2.1]) ∧ QPost M w (beginF d name).2.2.2 w' := by
  have d1 : decide ((1024 : Int) < (name.size : Int)) = false := by simp; omega
  have HB := Lib.hid hb
  obtain ⟨p0, p1, ps⟩ := h.head
  obtain ⟨A, cap, hv, hc1, hc2⟩ := h.shape
  have hl := h.len
  have hsm := h.small
  have hbf := h.blk
  rw [hv] at p0
  unfold maxLen at hc2
  obtain ⟨it, ht0, ht1, ht2, ht3⟩ := info_parts Try.info73
  have HC := Lib.hid (fun (V : World) (hV : Quiet w V) => show V.cell? ⟨M.p, 0, none⟩ = some (.slice A M.ys.length cap) ∧ V.cell? ⟨M.p, 1, none⟩ = some (.int .i64 (d.last : Nat)) ∧ M.p < V.heap.size ∧ V.frozen? ⟨M.p, 1, none⟩ = false from ⟨(hV.cell (p := ⟨M.p, 0, none⟩) ps (fun x => x)).trans p0, (hV.cell (p := ⟨M.p, 1, none⟩) ps (fun x => x)).trans p1, Nat.lt_of_lt_of_le ps hV.size, blk_frozen (hV.keep hbf (fun x => x)) 1⟩)
  have H := Lib.hid h
  have HE := Lib.hid (fun (i : Nat) (y : QF) (hy : M.ys[i]? = some y) => h.facts hy)
  have HJ := Lib.hid (fun (i : Nat) (y : QF) (hy : M.ys[i]? = some y) => h.job hy)
  have HL := Lib.hid hl
  have HV := Lib.hid hv
  have HPT := Lib.hid hpart
  obtain ⟨n, hn⟩ : ∃ n, n = M.ys.length := ⟨_, rfl⟩
  rw [← hn] at HC HL HV hsm hc1 HE
  have HN := Lib.hid hn
  obtain ⟨L, hLL⟩ : ∃ L, L = d.last := ⟨_, rfl⟩
  rw [← hLL] at HC hlast
  have HLL := Lib.hid hLL
  clear h hv hl hn p0 p1 ps hb hbf hpart hLL
  go_enter Try.func17, Try.ntmps17
  go_wp2_with fail
  go_loopw [7] (fun vi wr => BRel w d.js name n vi wr) (fun i _ => n - (intOf i).toNat)
  case atStart => exact ⟨0, by omega, rfl, fun j x hj => by omega, Only.refl _ _⟩
  case round =>
    obtain ⟨k, hk, rfl, hno, hq⟩ := hrel
    have HNO := Lib.hid hno; clear hno
    have HQ := Lib.hid hq; clear hq
    obtain ⟨t0, t1, t2, t3⟩ := HC.out wr HQ.out
    by_cases hlt : k < n
    · have hd : decide ((k : Int) < (n : Int)) = true := by simpa using hlt
      obtain ⟨y, hy⟩ : ∃ y, M.ys[k]? = some y := ⟨_, List.getElem?_eq_getElem (by have := HN.out; omega)⟩
      obtain ⟨g, cap', hv', _, _, hpg, hfc⟩ := HE.out k y hy
      rw [HV.out, Value.slice.injEq] at hv'
      obtain ⟨rfl, _, _⟩ := hv'
      have hgp : g ≠ M.p := fun e => hpg e.symm
      obtain ⟨⟨_, _, _, s3⟩, ⟨q0, q1, q2, q3, q4⟩, qf⟩ := hfc wr HQ.out
      have qf2 := qf (k * 5 + 2)
      have HJY := Lib.hid (HJ.out k y hy)
      have HY := Lib.hid hy
      have hpt := HPT.out y.2 (List.mem_of_getElem? HJY.out)
      clear hy hfc qf q4
      have k0 : (0 : Int) ≤ (k : Int) := by omega
      have k1 : (k : Int) < (n : Int) := by omega
      have HFN := Lib.hid (fun (h1 : y.2.2.name = name) (h2 : y.2.2.state = 0) => findN_first HJY.out h1 h2 HNO.out)
      have H3 := Lib.hid ((H.out.quiet HQ.out).put0 HY.out (by rw [HV.out, HN.out]) { y.2.2 with part := y.2.2.part + 1 } 2 (.int .i64 ((y.2.2.part : Int) + 1)) (by decide) rfl (by simp [qcells]))
      by_cases hnm : y.2.2.name = name
      · by_cases hst : y.2.2.state = 0
        · have HF := Lib.hid (HFN.out hnm hst)
          rw [hst] at q1
          rw [hnm] at q3
          obtain ⟨pt, hpt2⟩ : ∃ pt, pt = y.2.2.part := ⟨_, rfl⟩
          obtain ⟨e, he⟩ : ∃ e : Nat, e = y.2.1 := ⟨_, rfl⟩
          rw [← hpt2] at q2 hpt H3
          rw [← he] at q0
          have HPP := Lib.hid hpt2
          have HEE := Lib.hid he
          clear hnm hst hpt2 he
          go_wp2_with fail
          go_ret3
          refine ⟨by unfold beginF; rw [if_neg HB.out, HF.out]; simp [HJY.out, HEE.out], ?_⟩
          unfold beginF
          rw [if_neg HB.out, HF.out]
          refine ⟨_, ?_, QStep.after HQ.out H3.out.2⟩
          simp only [upd_set HJY.out, ← HPP.out]
          exact H3.out.1
        · have d2 : ((y.2.2.state : Int) == 0) = false := by simp; omega
          have HST := Lib.hid hst
          rw [hnm] at q3
          clear hnm hst
          go_wp2_with fail
          go_roundw
          case rel =>
            refine ⟨k + 1, by omega, by go_num, fun j x hj hx => ?_, HQ.out⟩
            by_cases hjk : j = k
            · subst hjk
              rw [HJY.out] at hx
              obtain rfl := Option.some.inj hx
              exact fun e => HST.out e.2
            · exact HNO.out j x (by omega) hx
          case measure => simp [intOf]; omega
      · have hnl : ¬ (y.2.2.name.toList = name.toList) := fun e => hnm (name_list e)
        have HNM := Lib.hid hnm
        clear hnm
        go_wp2_with fail
        go_roundw
        case rel =>
          refine ⟨k + 1, by omega, by go_num, fun j x hj hx => ?_, HQ.out⟩
          by_cases hjk : j = k
          · subst hjk
            rw [HJY.out] at hx
            obtain rfl := Option.some.inj hx
            exact fun e => HNM.out e.1
          · exact HNO.out j x (by omega) hx
        case measure => simp [intOf]; omega
    · have hkn : k = n := by omega
      subst hkn
      have hd : decide ((k : Int) < (k : Int)) = false := by simp
      have HF := Lib.hid (findN_nowhere (name := name) (js := d.js) (fun j x hx => HNO.out j x (by have := (List.getElem?_eq_some_iff.1 hx).1; have := HL.out; omega) hx))
      obtain ⟨n, rfl⟩ : ∃ n : Nat, n = k := ⟨_, rfl⟩
      by_cases hfull : 1024 ≤ n
      · have d2 : decide ((1024 : Int) ≤ (n : Int)) = true := by simp; omega
        have HFU := Lib.hid hfull
        clear hfull hlt
        go_wp2_with fail
        go_ret3
        refine ⟨by unfold beginF; rw [if_neg HB.out, HF.out]; simp only; rw [if_pos (by rw [HL.out]; exact HFU.out)]; rfl, ?_⟩
        unfold beginF
        rw [if_neg HB.out, HF.out]
        simp only
        rw [if_pos (by rw [HL.out]; exact HFU.out)]
        exact QPost.same H.out HQ.out
      · have d2 : decide ((1024 : Int) ≤ (n : Int)) = false := by simp; omega
        have HFU := Lib.hid hfull
        have HSM := Lib.hid (show ¬ 1024 ≤ (⟨d.js, L + 1⟩ : Desk).js.length by show ¬ 1024 ≤ d.js.length; rw [HL.out]; exact hfull)
        clear hlt
        have ebegin : beginF d name = ((d.last : Int) + 1, true, 0, ⟨d.js ++ [(d.last + 1, ⟨name, [], 0, 1⟩)], d.last + 1⟩) := by
          unfold beginF
          rw [if_neg HB.out, HF.out]
          simp only
          rw [if_neg (by rw [HL.out]; exact HFU.out)]
        have HEB := Lib.hid ebegin
        clear ebegin
        go_upto_region 12 with (fail)
        have H4 := Lib.hid ((H.out.quiet HQ.out).setLast (L + 1))
        have e4 : (.int .i64 ((L : Int) + 1) : Value) = .int .i64 ((L + 1 : Nat) : Int) := by simp
        rw [e4]
        clear e4 t0 t1 t2 t3
        generalize wr.setCell ⟨M.p, 1, none⟩ (.int .i64 ((L + 1 : Nat) : Int)) = w4 at H4 ⊢
        obtain ⟨r0, r1, r2⟩ := H4.out.1.head
        rw [HV.out] at r0
        have HOW := Lib.hid (fun (V : World) (hV : Quiet w4 V) => (H4.out.1.quiet hV).own)
        rw [HV.out, ← HN.out] at HOW
        have HG := Lib.hid (fun (V V' : World) (hV : Quiet w4 V) (hg : V.grownBy V' (Value.slice A n cap).ownBlock) => show V'.cell? ⟨M.p, 0, none⟩ = some (.slice A n cap) ∧ V'.cell? ⟨M.p, 1, none⟩ = some (.int .i64 ((L + 1 : Nat) : Int)) ∧ M.p < V'.heap.size ∧ V'.frozen? ⟨M.p, 0, none⟩ = false from by
          have hk := ((Only.refl (fun k => (Value.slice A n cap).ownBlock = some k) V).of_grown hg (fun k hk _ => hk)).keep (H4.out.1.quiet hV).blk (fun q => by
            obtain ⟨cu, hc⟩ := row_ownQ (H4.out.1.quiet hV).own (k := M.p) (by rw [HV.out]; exact q)
            exact blk_ne hc (H4.out.1.quiet hV).blk (by decide) rfl)
          exact ⟨by rw [← HV.out]; exact blk_cell hk 0, blk_cell hk 1, lt_of_heap hk, blk_frozen hk 0⟩)
        refine wp_region_noPanic ?_
        refine wp_region_held_drew (S := (fun w' => w'.cell? ⟨M.p, 1, none⟩ = some (.int .i64 ((L + 1 : Nat) : Int)))) (by kernel_rfl) ?_ (fun hHeld => ?_)
        · try dsimp only
          (first | exact r1 | exact p6 | exact (cell_off (by decide) _).trans p6 | go_keep)
        refine wpAnyH_take (i := 0) (v := ?_) (at_list rfl) (by kernel_rfl) (by kernel_rfl) (by kernel_rfl) (fun _ _ _ h => h) (Or.inl ⟨by rfl, ?_⟩) (by assumption) ?_
        rotate_left
        · intro w hSw
          try dsimp only at hSw
          go_simp
          try with_reducible rfl
        simp only [Act.put, List.setIfInBounds_toArray, List.set_cons_zero, List.set_cons_succ]
        refine wpAnyH_take (i := 1) (v := ?_) (at_list rfl) (by kernel_rfl) (by kernel_rfl) (by kernel_rfl) (fun _ _ _ h => h) (Or.inl ⟨by rfl, ?_⟩) (by assumption) ?_
        rotate_left
        · intro w hSw
          try dsimp only at hSw
          go_simp
          try with_reducible rfl
        simp only [Act.put, List.setIfInBounds_toArray, List.set_cons_zero, List.set_cons_succ]
        refine wpAnyH_take (i := 2) (v := ?_) (at_list rfl) (by kernel_rfl) (by kernel_rfl) (by kernel_rfl) (fun _ _ _ h => h) (Or.inl ⟨by rfl, ?_⟩) (by assumption) ?_
        rotate_left
        · intro w hSw
          try dsimp only at hSw
          go_simp
          try with_reducible rfl
        simp only [Act.put, List.setIfInBounds_toArray, List.set_cons_zero, List.set_cons_succ]
        refine wpAnyH_take (i := 3) (v := ?_) (at_list rfl) (by kernel_rfl) (by kernel_rfl) (by kernel_rfl) (fun _ _ _ h => h) (Or.inl ⟨by rfl, ?_⟩) (by assumption) ?_
        rotate_left
        · intro w hSw
          try dsimp only at hSw
          go_simp
          try with_reducible rfl
        simp only [Act.put, List.setIfInBounds_toArray, List.set_cons_zero, List.set_cons_succ]
        refine wpAnyH_take (i := 5) (v := ?_) (at_list rfl) (by kernel_rfl) (by kernel_rfl) (by kernel_rfl) (fun _ _ _ h => h) (Or.inl ⟨by rfl, ?_⟩) (by assumption) ?_
        rotate_left
        · intro w hSw
          try dsimp only at hSw
          go_simp
          try with_reducible rfl
        simp only [Act.put, List.setIfInBounds_toArray, List.set_cons_zero, List.set_cons_succ]
        refine wpAnyH_take (i := 6) (v := ?_) (at_list rfl) (by kernel_rfl) (by kernel_rfl) (by kernel_rfl) (fun _ _ _ h => h) (Or.inl ⟨by rfl, ?_⟩) (by assumption) ?_
        rotate_left
        · intro w hSw
          try dsimp only at hSw
          go_simp
          try with_reducible rfl
        simp only [Act.put, List.setIfInBounds_toArray, List.set_cons_zero, List.set_cons_succ]
        refine wpAnyH_take (i := 7) (v := ?_) (at_list rfl) (by kernel_rfl) (by kernel_rfl) (by kernel_rfl) (fun _ _ _ h => h) (Or.inl ⟨by rfl, ?_⟩) (by assumption) ?_
        rotate_left
        · intro w hSw
          try dsimp only at hSw
          go_simp
          try with_reducible rfl
        simp only [Act.put, List.setIfInBounds_toArray, List.set_cons_zero, List.set_cons_succ]
        refine wpAnyH_take (i := 8) (v := ?_) (at_list rfl) (by kernel_rfl) (by kernel_rfl) (by kernel_rfl) (fun _ _ _ h => h) (Or.inl ⟨by rfl, ?_⟩) (by assumption) ?_
        rotate_left
        · intro w hSw
          try dsimp only at hSw
          go_simp
          try with_reducible rfl
        simp only [Act.put, List.setIfInBounds_toArray, List.set_cons_zero, List.set_cons_succ]
        refine wpAnyH_take (i := 9) (v := ?_) (at_list rfl) (by kernel_rfl) (by kernel_rfl) (by kernel_rfl) (fun _ _ _ h => h) (Or.inl ⟨by rfl, ?_⟩) (by assumption) ?_
        rotate_left
        · intro w hSw
          try dsimp only at hSw
          go_simp
          try with_reducible rfl
        simp only [Act.put, List.setIfInBounds_toArray, List.set_cons_zero, List.set_cons_succ]
        refine wpAnyH_take (i := 10) (v := ?_) (at_list rfl) (by kernel_rfl) (by kernel_rfl) (by kernel_rfl) (fun _ _ _ h => h) (Or.inl ⟨by rfl, ?_⟩) (by assumption) ?_
        rotate_left
        · intro w hSw
          try dsimp only at hSw
          go_simp
          try with_reducible rfl
        simp only [Act.put, List.setIfInBounds_toArray, List.set_cons_zero, List.set_cons_succ]
        refine wpAnyH_ready (rs := [4, 11]) (by kernel_rfl) (by simp) ?_
        refine AllReadyH.cons (at_list rfl) (fun KK hKK => ?_) (AllReadyH.cons (at_list rfl) (fun KK hKK => ?_) AllReadyH.nil)
        · skip
          go_simp
          refine hKK.out _ _ ?_ (fun hHeld2 => ?_)
          · try dsimp only
            (first | exact r1 | exact p6 | exact (cell_off (by decide) _).trans p6 | go_keep)
          clear hKK KK hHeld
          rename _ => hHeld
          try simp only [Act.put, List.setIfInBounds_toArray, List.set_cons_zero, List.set_cons_succ]
          refine wpAnyH_ready (rs := [11]) (by kernel_rfl) (by simp) ?_
          refine AllReadyH.cons (at_list rfl) (fun KK hKK => ?_) AllReadyH.nil
          go_simp
          refine hKK.out _ _ ?_ (fun hHeld2 => ?_)
          · try dsimp only
            (first | exact r1 | exact p6 | exact (cell_off (by decide) _).trans p6 | go_keep)
          clear hKK KK hHeld
          rename _ => hHeld
          try simp only [Act.put, List.setIfInBounds_toArray, List.set_cons_zero, List.set_cons_succ]
          refine wpAnyH_ready (rs := [12]) (by kernel_rfl) (by simp) ?_
          refine AllReadyH.cons (at_list rfl) (fun KK hKK => ?_) AllReadyH.nil
          refine step_append_own_at _ rfl (.tmp 77) (.tmp 84) 53 rfl 0 73 it (.agg #[.int .i64 0, .int .i64 0, .int .i64 0, .string ByteArray.empty, .slice none 0 0]) 5 64 Try.underlying53 ht0 ht1 ht2 ht3 rfl (by decide) _ n (qflat M.ys) (by rfl) (HOW.out _ (by repeat (first | exact Only.refl _ _ | refine Only.drewN ?_ _ | refine Only.drew ?_ | refine Only.alloc ?_ _))) ⟨w4.heap.size, 0, none⟩ 1 1 [.int .i64 ((L + 1 : Nat) : Int), .int .i64 0, .int .i64 1, .string name, .slice none 0 0] (by rfl) rfl (news_blk5 (by repeat (first | exact qblk_new' _ _ (by first | rfl | simp) | refine qblk_drewN ?_ | refine qblk_drew ?_ | refine blk_alloc ?_ _))) (five_one rfl rfl rfl rfl rfl) (by unfold maxLen; omega) (by omega) (Nat.zero_le _) ?_
          intro v' w5 hown hg hvv
          obtain ⟨A2, c2, hv'⟩ := row_shapeQ hown
          subst hv'
          have hg2 := hg
          rw [← HV.out] at hg2 hvv
          have HP := Lib.hid (new_row (name := name) H4.out.1 (by repeat (first | exact Only.refl _ _ | refine Only.drewN ?_ _ | refine Only.drew ?_ | refine Only.alloc ?_ _)) HSM.out (by rw [← HN.out]; exact hown) hg2 hvv)
          clear hg2
          obtain ⟨p5, p6, l5, f5⟩ := HG.out _ _ (by repeat (first | exact Only.refl _ _ | refine Only.drewN ?_ _ | refine Only.drew ?_ | refine Only.alloc ?_ _)) hg
          clear hown hg hvv
          refine hKK.out _ _ ?_ (fun hHeld2 => ?_)
          · try dsimp only
            (first | exact r1 | exact p6 | exact (cell_off (by decide) _).trans p6 | go_keep)
          clear hKK KK hHeld
          rename _ => hHeld
          try simp only [Act.put, List.setIfInBounds_toArray, List.set_cons_zero, List.set_cons_succ]
          refine wpAnyH_take (i := 13) (v := ?_) (at_list rfl) (by kernel_rfl) (by kernel_rfl) (by kernel_rfl) (fun _ _ _ h => h) (Or.inl ⟨by rfl, ?_⟩) (by assumption) ?_
          rotate_left
          · intro w hSw
            try dsimp only at hSw
            go_simp
            try with_reducible rfl
          simp only [Act.put, List.setIfInBounds_toArray, List.set_cons_zero, List.set_cons_succ]
          refine wpAnyH_take (i := 14) (v := ?_) (at_list rfl) (by kernel_rfl) (by kernel_rfl) (by kernel_rfl) (fun _ _ _ h => h) (Or.inl ⟨by rfl, ?_⟩) (by assumption) ?_
          rotate_left
          · intro w hSw
            try dsimp only at hSw
            go_simp
            try with_reducible rfl
          simp only [Act.put, List.setIfInBounds_toArray, List.set_cons_zero, List.set_cons_succ]
          refine wpAnyH_ready (rs := [15]) (by kernel_rfl) (by simp) ?_
          refine AllReadyH.cons (at_list rfl) (fun KK hKK => ?_) AllReadyH.nil
          go_simp
          refine hKK.out _ _ ?_ (fun hHeld2 => ?_)
          · try dsimp only
            (first | exact r1 | exact p6 | exact (cell_off (by decide) _).trans p6 | go_keep)
          clear hKK KK hHeld
          rename _ => hHeld
          try simp only [Act.put, List.setIfInBounds_toArray, List.set_cons_zero, List.set_cons_succ]
          refine wpAnyH_done (by kernel_rfl) ?_ _
          refine NoPanic.normal ?_
          go_wp2_with fail
          go_ret3
          exact ⟨by rw [HEB.out, ← HLL.out]; simp, by rw [HEB.out]; exact qbegin_post HQ.out H4.out.2 HLL.out HP.out⟩
        · skip
          go_simp
          refine hKK.out _ _ ?_ (fun hHeld2 => ?_)
          · try dsimp only
            (first | exact r1 | exact p6 | exact (cell_off (by decide) _).trans p6 | go_keep)
          clear hKK KK hHeld
          rename _ => hHeld
          try simp only [Act.put, List.setIfInBounds_toArray, List.set_cons_zero, List.set_cons_succ]
          refine wpAnyH_ready (rs := [4]) (by kernel_rfl) (by simp) ?_
          refine AllReadyH.cons (at_list rfl) (fun KK hKK => ?_) AllReadyH.nil
          go_simp
          refine hKK.out _ _ ?_ (fun hHeld2 => ?_)
          · try dsimp only
            (first | exact r1 | exact p6 | exact (cell_off (by decide) _).trans p6 | go_keep)
          clear hKK KK hHeld
          rename _ => hHeld
          try simp only [Act.put, List.setIfInBounds_toArray, List.set_cons_zero, List.set_cons_succ]
          refine wpAnyH_ready (rs := [12]) (by kernel_rfl) (by simp) ?_
          refine AllReadyH.cons (at_list rfl) (fun KK hKK => ?_) AllReadyH.nil
          refine step_append_own_at _ rfl (.tmp 77) (.tmp 84) 53 rfl 0 73 it (.agg #[.int .i64 0, .int .i64 0, .int .i64 0, .string ByteArray.empty, .slice none 0 0]) 5 64 Try.underlying53 ht0 ht1 ht2 ht3 rfl (by decide) _ n (qflat M.ys) (by rfl) (HOW.out _ (by repeat (first | exact Only.refl _ _ | refine Only.drewN ?_ _ | refine Only.drew ?_ | refine Only.alloc ?_ _))) ⟨w4.heap.size, 0, none⟩ 1 1 [.int .i64 ((L + 1 : Nat) : Int), .int .i64 0, .int .i64 1, .string name, .slice none 0 0] (by rfl) rfl (news_blk5 (by repeat (first | exact qblk_new' _ _ (by first | rfl | simp) | refine qblk_drewN ?_ | refine qblk_drew ?_ | refine blk_alloc ?_ _))) (five_one rfl rfl rfl rfl rfl) (by unfold maxLen; omega) (by omega) (Nat.zero_le _) ?_
          intro v' w5 hown hg hvv
          obtain ⟨A2, c2, hv'⟩ := row_shapeQ hown
          subst hv'
          have hg2 := hg
          rw [← HV.out] at hg2 hvv
          have HP := Lib.hid (new_row (name := name) H4.out.1 (by repeat (first | exact Only.refl _ _ | refine Only.drewN ?_ _ | refine Only.drew ?_ | refine Only.alloc ?_ _)) HSM.out (by rw [← HN.out]; exact hown) hg2 hvv)
          clear hg2
          obtain ⟨p5, p6, l5, f5⟩ := HG.out _ _ (by repeat (first | exact Only.refl _ _ | refine Only.drewN ?_ _ | refine Only.drew ?_ | refine Only.alloc ?_ _)) hg
          clear hown hg hvv
          refine hKK.out _ _ ?_ (fun hHeld2 => ?_)
          · try dsimp only
            (first | exact r1 | exact p6 | exact (cell_off (by decide) _).trans p6 | go_keep)
          clear hKK KK hHeld
          rename _ => hHeld
          try simp only [Act.put, List.setIfInBounds_toArray, List.set_cons_zero, List.set_cons_succ]
          refine wpAnyH_take (i := 13) (v := ?_) (at_list rfl) (by kernel_rfl) (by kernel_rfl) (by kernel_rfl) (fun _ _ _ h => h) (Or.inl ⟨by rfl, ?_⟩) (by assumption) ?_
          rotate_left
          · intro w hSw
            try dsimp only at hSw
            go_simp
            try with_reducible rfl
          simp only [Act.put, List.setIfInBounds_toArray, List.set_cons_zero, List.set_cons_succ]
          refine wpAnyH_take (i := 14) (v := ?_) (at_list rfl) (by kernel_rfl) (by kernel_rfl) (by kernel_rfl) (fun _ _ _ h => h) (Or.inl ⟨by rfl, ?_⟩) (by assumption) ?_
          rotate_left
          · intro w hSw
            try dsimp only at hSw
            go_simp
            try with_reducible rfl
          simp only [Act.put, List.setIfInBounds_toArray, List.set_cons_zero, List.set_cons_succ]
          refine wpAnyH_ready (rs := [15]) (by kernel_rfl) (by simp) ?_
          refine AllReadyH.cons (at_list rfl) (fun KK hKK => ?_) AllReadyH.nil
          go_simp
          refine hKK.out _ _ ?_ (fun hHeld2 => ?_)
          · try dsimp only
            (first | exact r1 | exact p6 | exact (cell_off (by decide) _).trans p6 | go_keep)
          clear hKK KK hHeld
          rename _ => hHeld
          try simp only [Act.put, List.setIfInBounds_toArray, List.set_cons_zero, List.set_cons_succ]
          refine wpAnyH_done (by kernel_rfl) ?_ _
          refine NoPanic.normal ?_
          go_wp2_with fail
          go_ret3
          exact ⟨by rw [HEB.out, ← HLL.out]; simp, by rw [HEB.out]; exact qbegin_post HQ.out H4.out.2 HLL.out HP.out⟩
theorem qbegin (h : QAt w M d) (name : ByteArray) (hlast : d.last < 4611686018427387904) (hpart : ∀ e ∈ d.js, e.2.part < 4611686018427387904) :
    Calls Try.prog 17 #[.pointer (some ⟨M.p, 0, none⟩), .string name] w fun x w' => x = .returned (.tuple #[.int .i64 (beginF d name).1, .bool (beginF d name).2.1, .int .i64 (beginF d name).2.2.1]) ∧ QPost M w (beginF d name).2.2.2 w' := by
  by_cases hb : 1024 < name.size
  · have e : beginF d name = (0, false, 3, d) := by unfold beginF; rw [if_pos hb]
    rw [e]
    exact (qbegin_big h name hb).mono fun x w' ⟨e, hq⟩ => ⟨e, QPost.same h hq⟩
  · exact qbegin_ok h name hb hlast hpart
end
end Go.Proofs.Ytffockkdiimneaa
