/-
  The walk of NetOrder. No conditions.
-/
import Derived.Test.YtdigeppbflkknaaBoxes
import Derived.Test.YtdigeppbflkknaaArgsBb
import Derived.Lib.SlBytesConst
import Derived.Lib.SmallJoins
namespace Go.Proofs.Ytdigeppbflkknaa
open Go.RowKit
set_option linter.unusedVariables false
set_option linter.unusedSimpArgs false

theorem at_list {α : Type} {l : List α} {i : Nat} {x : α} (h : l[i]? = some x) : l.toArray[i]? = some x := by rw [List.getElem?_toArray]; exact h
/-- Between two rounds of the first loop. -/
def O1 (w : World) (p b8 b9 : Nat) (k : Nat) (wr : World) : Prop := ∃ L Q, ORel w p b8 b9 [wireQ Q 0] L wr ∧ OInv L Q (500 * k)
theorem ORel.start {w w2 : World} {p : Nat} {xs : List Wire} (h : LRel w p xs w2) :
    ORel w p w2.heap.size (w2.heap.size + 1) xs (fun _ => []) ((w2.alloc (.cells #[.slice none 0 0, .slice none 0 0] 56)).alloc (.cells #[.slice none 0 0, .slice none 0 0] 56)) := by
  obtain ⟨N, h1, h2, h3, h4⟩ := h
  have hq : Quiet w2 ((w2.alloc (.cells #[.slice none 0 0, .slice none 0 0] 56)).alloc (.cells #[.slice none 0 0, .slice none 0 0] 56)) := ((Only.refl _ _).alloc _).alloc _
  have hno : ∀ (k : Nat), RowOf none k → False := fun k ⟨a, e, _⟩ => nomatch e
  refine ⟨⟨N, fun _ => ⟨none, 0⟩⟩, h1, h2.quiet hq, h3.trans (hq.below h3.size (fun _ x => x.elim)), h4, blk_alloc (blk_new w2 _) _, (show ((w2.alloc (.cells #[.slice none 0 0, .slice none 0 0] 56)).alloc (.cells #[.slice none 0 0, .slice none 0 0] 56)).heap[w2.heap.size + 1]? = some (.cells #[.slice none 0 0, .slice none 0 0] 56) from by simpa using blk_new (w2.alloc (.cells #[.slice none 0 0, .slice none 0 0] 56)) (.cells #[.slice none 0 0, .slice none 0 0] 56)), by omega, ⟨h3.size, by have := h3.size; omega⟩, fun j => Sl.nil _ _, fun i j _ k hk => (hno k hk).elim, fun j k hk => (hno k hk).elim, fun j k hk => (hno k hk).elim⟩
/-- The contracts, with the boxes' rows kept. -/
theorem xsend {w wr : World} {p b8 b9 : Nat} {M : OMem} {xs : List Wire} {L : Fin 4 → List UInt8} (h : OAt w p b8 b9 M xs L wr) (k side : Int) {A : Option Addr} {n c : Nat} {l : List UInt8} (hb : Bts wr A n c l) :
    Calls Try.prog 9 #[.pointer (some ⟨p, 0, none⟩), .int .i64 k, .int .i64 side, .slice A n c] wr fun e w' => e = .returned (.int .i64 (sendF xs k side l).1) ∧ ∃ N', OAt w p b8 b9 ⟨N', M.r⟩ (sendF xs k side l).2 L w' := by
  have hl := hb.len
  subst hl
  have h2 := h.net
  rw [← h.p]
  refine (send_at h2 k side A c l (Nat.le_trans hb.le hb.cap) (fun W hW => (hb.only hW (fun _ _ x => x)).toSrc) (fun e => (hb.nil e).1)).mono ?_
  rintro e w' ⟨rfl, N', r1, r2⟩
  exact ⟨rfl, _, h.p.symm ▸ h.netStep r1 r2⟩
theorem xshut {w wr : World} {p b8 b9 : Nat} {M : OMem} {xs : List Wire} {L : Fin 4 → List UInt8} (h : OAt w p b8 b9 M xs L wr) (k side : Int) :
    Calls Try.prog 10 #[.pointer (some ⟨p, 0, none⟩), .int .i64 k, .int .i64 side] wr fun e w' => e = .returned (.int .i64 (shutF xs k side).1) ∧ ∃ N', OAt w p b8 b9 ⟨N', M.r⟩ (shutF xs k side).2 L w' := by
  have h2 := h.net
  rw [← h.p]
  refine (shut_at h2 k side).mono ?_
  rintro e w' ⟨rfl, N', r1, r2⟩
  exact ⟨rfl, _, h.p.symm ▸ h.netStep r1 r2⟩
theorem xended {w wr : World} {p b8 b9 : Nat} {M : OMem} {xs : List Wire} {L : Fin 4 → List UInt8} (h : OAt w p b8 b9 M xs L wr) (k side : Int) :
    Calls Try.prog 13 #[.pointer (some ⟨p, 0, none⟩), .int .i64 k, .int .i64 side] wr fun e w' => e = .returned (.bool (endedF xs k side)) ∧ OAt w p b8 b9 M xs L w' := by
  rw [← h.p]
  refine (ended_at h.net k side).mono ?_
  rintro e w' ⟨rfl, hq⟩
  exact ⟨rfl, h.p.symm ▸ h.quiet hq⟩
theorem xwaiting {w wr : World} {p b8 b9 : Nat} {M : OMem} {xs : List Wire} {L : Fin 4 → List UInt8} (h : OAt w p b8 b9 M xs L wr) (k side : Int) :
    Calls Try.prog 12 #[.pointer (some ⟨p, 0, none⟩), .int .i64 k, .int .i64 side] wr fun e w' => e = .returned (.int .i64 (waitingF xs k side)) ∧ OAt w p b8 b9 M xs L w' := by
  rw [← h.p]
  refine (waiting_at h.net k side).mono ?_
  rintro e w' ⟨rfl, hq⟩
  exact ⟨rfl, h.p.symm ▸ h.quiet hq⟩
theorem OAt.drew {w wr : World} {p b8 b9 : Nat} {M : OMem} {xs : List Wire} {L : Fin 4 → List UInt8} (h : OAt w p b8 b9 M xs L wr) : OAt w p b8 b9 M xs L wr.drew := h.quiet (Only.drew (Only.refl _ _))
theorem OAt.alloc {w wr : World} {p b8 b9 : Nat} {M : OMem} {xs : List Wire} {L : Fin 4 → List UInt8} (h : OAt w p b8 b9 M xs L wr) (o : Obj) : OAt w p b8 b9 M xs L (wr.alloc o) := h.quiet ((Only.refl _ _).alloc o)
theorem OAt.conv {w wr : World} {p b8 b9 : Nat} {M : OMem} {xs : List Wire} {L : Fin 4 → List UInt8} (h : OAt w p b8 b9 M xs L wr) (j : Fin 4) : (convert 22 9 (.slice (M.r j).A (L j).length (M.r j).c)).run Try.prog wr = .ok (.string ⟨(L j).toArray⟩) wr :=
  (h.rowBts j).conv Try.underlying22 Try.underlying5 Try.underlying9
theorem one_bts (w : World) : Bts (w.alloc (.cells #[.int .u8 120] 5 (1, 2))) (some ⟨w.heap.size, 0, none⟩) 1 1 [120] :=
  ⟨rfl, Nat.le_refl _, by unfold maxLen; omega, fun e => (nomatch e), fun _ => ⟨w.heap.size, 0, rfl, by simp, fun i u hu => by
    rw [Nat.zero_add, World.cell?_alloc_mark, ← hu]
    cases i with
    | zero => rfl
    | succ i => simp [bytes]⟩⟩
theorem one_conv (w : World) : (convert 22 22 (.slice (some ⟨w.heap.size, 0, none⟩) 1 1)).run Try.prog (w.alloc (.cells #[.int .u8 120] 5)) = .ok (.slice (some ⟨w.heap.size, 0, none⟩) 1 1) (w.alloc (.cells #[.int .u8 120] 5 (1, 2))) :=
  Lib.run_convert_bytes_const w 22 5 #[.int .u8 120] 1 1 Try.underlying22 Try.underlying5
theorem wq_take_all {Q : Nat → List UInt8} {y s : Nat} (t : Int) (ht : t = 1 - (y : Int)) (hy : y < 2) (hl : (Q y).length ≤ 1048576) : takeF [wireQ Q s] 1 t 1048576 = (0, Q y, [wireQ (upQ Q y []) s]) := by
  have := wq_take (Q := Q) (s := s) t ht hy 1048576
  rw [List.take_of_length_le hl, List.drop_of_length_le hl] at this
  exact this
theorem OInv.takeAll {L : Fin 4 → List UInt8} {Q : Nat → List UInt8} {b : Nat} (h : OInv L Q b) {y : Nat} (hy : y < 2) : OInv (putL L (jG y) (L (jG y) ++ Q y)) (upQ Q y []) b := by
  have := h.take hy (Q y).length
  rwa [List.take_length, List.drop_length] at this
/-- Between two rounds of the second loop. -/
def O2 (w : World) (p b8 b9 : Nat) (s : Nat) (wr : World) : Prop := ∃ L Q, ORel w p b8 b9 [wireQ Q s] L wr ∧ OInv L Q 30000
theorem OInv.full {L : Fin 4 → List UInt8} {Q : Nat → List UInt8} {b : Nat} (h : OInv L Q b) {y : Nat} (hy : y < 2) : ((((L (jG y)).length : Int) == ((L (jA y)).length : Int)) = decide ((Q y).length = 0)) := by
  rw [(h.at_ hy).1, List.length_append, Bool.eq_iff_iff]
  simp only [beq_iff_eq, decide_eq_true_eq]
  omega
theorem OInv.long {L : Fin 4 → List UInt8} {Q : Nat → List UInt8} {b : Nat} (h : OInv L Q b) {y : Nat} (hy : y < 2) : (Q y).length ≤ b ∧ (L (jG y)).length ≤ b := by
  have h1 := (h.at_ hy).2
  rw [(h.at_ hy).1, List.length_append] at h1
  omega
set_option maxRecDepth 8000 in
set_option maxHeartbeats 8000000 in
theorem order_walk (w : World) (A0 : Option Addr) (n0 c0 : Nat) (l0 : List (Option Addr × Nat × Nat × List UInt8)) (hcm0 : c0 ≤ maxLen) (hnc0 : n0 ≤ c0) (arg0 : StructsArg bbCells 1 w A0 n0 l0) (el0 : ∀ x ∈ l0, BbAt w x)
    (A1 : Option Addr) (n1 c1 : Nat) (l1 : List Int) (hnc1 : n1 ≤ c1) (hcm1 : c1 ≤ maxLen) (arg1 : IntsArg .i64 w A1 n1 l1) :
    Calls Try.prog 5 #[.slice A0 n0 c0, .slice A1 n1 c1] w fun e w' => e = .returned (.bool true) ∧ Below w.heap.size w w' := by
  unfold maxLen at hcm0 hcm1
  obtain ⟨i0, hi0, hz0, hz1, hz2⟩ := info_parts Try.info5
  have AR0 := Lib.hid arg0; clear arg0
  have EL0 := Lib.hid el0; clear el0
  have AR1 := Lib.hid arg1; clear arg1
  go_enter Try.func5, Try.ntmps5
  go_wp2_with (first
    | (go_at_call 14; refine (new_at _).mono ?_; rintro e w1 ⟨N, rfl, hN, hq, hown⟩; have HN := Lib.hid hN; have HQ := Lib.hid hq; have HO := Lib.hid hown; clear hN hq hown; have HR := Lib.hid (show LRel w N.p [] w1 from ⟨N, rfl, HN.out, HQ.out.below (Nat.le_refl _) (fun _ x => x.elim), HO.out⟩); clear HN HQ HO; generalize N.p = p at HR ⊢)
    | (go_at_call 7; refine (lopen HR.out).mono ?_; rw [open_one]; rintro e w2 ⟨rfl, hr2⟩; have HR2 := Lib.hid hr2; clear hr2))
  have hst : O1 w p w2.heap.size (w2.heap.size + 1) 0 ((w2.alloc (.cells #[.slice none 0 0, .slice none 0 0] 56)).alloc (.cells #[.slice none 0 0, .slice none 0 0] 56)) := ⟨_, fun _ => [], wq_new ▸ ORel.start HR2.out, rfl, rfl, Nat.zero_le _, Nat.zero_le _⟩
  clear HR HR2
  generalize w2.heap.size + 1 = b9 at hst ⊢
  generalize w2.heap.size = b8 at hst ⊢
  go_loopw [10] (fun i wr => ∃ k : Nat, k ≤ 60 ∧ i = .int .i64 k ∧ O1 w p b8 b9 k wr) (fun i _ => 60 - (intOf i).toNat)
  case atStart => exact ⟨0, by omega, rfl, hst⟩
  case round =>
    clear hst
    obtain ⟨k, hk, rfl, L, Q, hr, hinv⟩ := hrel
    have HR := Lib.hid hr; clear hr
    have HI := Lib.hid hinv; clear hinv
    by_cases hc : k < n0 ∧ k < 60
    · obtain ⟨h1, h2⟩ := hc
      have dd1 : decide ((k : Int) < (n0 : Int)) = true := by simpa using h1
      have dd2 : decide ((k : Int) < 60) = true := by simp; omega
      obtain ⟨y, hy, hy1⟩ := and_mask (k : Int) 1 (by omega)
      have hy : bits .and .i64 (k : Int) 1 = (y : Int) := by simpa using hy
      have y2 : y < 2 := by omega
      obtain ⟨hl0, hcell0⟩ := AR0.out
      obtain ⟨ba, oa, rfl, hba, hcell0⟩ := hcell0 (by omega)
      obtain ⟨x, hx⟩ : ∃ x, l0[k]? = some x := ⟨_, List.getElem?_eq_getElem (by omega)⟩
      have hxb := EL0.out x (List.mem_of_getElem? hx)
      obtain ⟨A, n, c, l⟩ := x
      unfold BbAt at hxb
      simp only [] at hxb
      have hcx := hcell0 k _ hx 0 (by omega)
      simp only [bbCells, Nat.mul_one, Nat.add_zero, List.getElem?_cons_zero] at hcx
      obtain ⟨M, hm⟩ := HR.out
      have hcx : wr.cell? ⟨ba, oa + k, none⟩ = some (.slice A n c) := (hm.below.cell (p := ⟨ba, oa + k, none⟩) hba).trans hcx
      have HM := Lib.hid hm; clear hm
      have HB := Lib.hid hxb
      have hnc := hxb.le
      have hcm := hxb.cap
      unfold maxLen at hcm
      clear hcell0 hx hl0 hxb
      go_upto_if 49 with (fail)
      go_cut [12] (fun s wx => ∃ A n c l, s = .slice A n c ∧ n ≤ 500 ∧ Bts w A n c l ∧ wr = wx)
      case first =>
        by_cases hbig : 500 < n
        · have dd : decide ((500 : Int) < (n : Int)) = true := by simp; omega
          have hc5 : 500 ≤ c := by omega
          go_wp2
          go_meet
          exact ⟨_, _, _, _, rfl, by omega, HB.out.take (m := 500) (by omega), rfl⟩
        · have dd : decide ((500 : Int) < (n : Int)) = false := by simp; omega
          go_wp2
          go_meet
          exact ⟨_, _, _, _, rfl, by omega, HB.out, rfl⟩
      case rest =>
        clear HB hcx hnc hcm
        obtain ⟨A, n, c, l, rfl, hn, hb, rfl⟩ := hcut
        have HB := Lib.hid hb; clear hb
        have hQ : (l.length : Int) ≤ 1048576 - (Q y).length := by
          have h1 := (HI.out.at_ y2).2
          rw [(HI.out.at_ y2).1, List.length_append] at h1
          have := HB.out.len
          omega
        have HQ := Lib.hid hQ; clear hQ
        have y0 : (0 : Int) ≤ (y : Int) := by omega
        have yy : (y : Int) < 2 := by omega
        go_upto_region 15 with (go_at_call 9; refine (osend HR.out 1 (y : Int) (HM.out.bts HB.out)).mono ?_; rw [wq_send y2 HQ.out]; rintro e w3 ⟨rfl, M3, hm3⟩; have HM3 := Lib.hid hm3; clear hm3)
        have ca := HM3.out.cellA y2
        have cz := lt_of_heap HM3.out.all
        have cf := blk_frozen HM3.out.all y
        have hsl := HM3.out.sl (jA y)
        have hbl : (L (jA y)).length ≤ 30000 := by have := (HI.out.at_ y2).2; omega
        have HSL := Lib.hid hsl; clear hsl
        have HLEN := Lib.hid HB.out.len
        go_wp2_with (at_builtin; refine wpList_append_sl _ rfl (.tmp 61) (.tmp 62) 22 rfl 5 i0 (.int .u8 0) 1 Try.underlying22 hi0 hz0 hz1 hz2 rfl _ _ _ (bytes (L (jA y))) rfl HSL.out A n c (bytes l) rfl (by rw [bytes_len, HLEN.out]) (HM3.out.bts HB.out).toSrc (fun e => (HB.out.nil e).1) (bytes_one _) ?c3 ?c4 ?_)
        case c3 => unfold maxLen; omega
        case c4 => omega
        intro A' c' w4 hsl' hon' hrow'
        have hall4 := hon'.keep HM3.out.all (HM3.out.notRow HM3.out.all (jA y))
        have ca4 := (hon'.cell (p := ⟨b8, y, none⟩) cz (HM3.out.notRow HM3.out.all (jA y))).trans ca
        have cf4 := blk_frozen hall4 y
        have cz4 := lt_of_heap hall4
        have HO5 := Lib.hid (HM3.out.putA y2 (ys := l) (n' := (L (jA y)).length + n) (by rw [HB.out.len]) hsl' hon' hrow')
        have HI5 := Lib.hid (HI.out.send y2 (l := l) (b' := 500 * (k + 1)) (by rw [HB.out.len]; omega))
        clear hsl' hon' hrow' hall4
        go_upto_region 16 with (fail)
        clear ca4 cf4 cz4 ca cz cf HSL HM3 HM HR HI HQ HLEN hbl HB
        generalize w4.setCell ⟨b8, y, none⟩ (.slice A' ((L (jA y)).length + n) c') = w5 at HO5 ⊢
        generalize putL L (jA y) (L (jA y) ++ l) = L5 at HO5 HI5
        generalize upQ Q y (Q y ++ l) = Q5 at HO5 HI5
        generalize ({ M3 with r := putR M3.r (jA y) ⟨A', c'⟩ } : OMem) = M5 at HO5
        by_cases hk1 : k < n1
        · have d1 : decide ((k : Int) < (n1 : Int)) = true := by simpa using hk1
          obtain ⟨hl1, _, hcell1⟩ := AR1.out
          obtain ⟨b1, o1, rfl, hb1, hcell1⟩ := hcell1 (by omega)
          obtain ⟨x1, hx1⟩ : ∃ x, l1[k]? = some x := ⟨_, List.getElem?_eq_getElem (by omega)⟩
          have hcx1 : w5.cell? ⟨b1, o1 + k, none⟩ = some (.int .i64 x1) := (HO5.out.below.cell (p := ⟨b1, o1 + k, none⟩) hb1).trans (hcell1 k x1 hx1)
          clear hcell1 hx1 hl1
          obtain ⟨t, ht, ht1⟩ := and_mask x1 1 (by omega)
          have ht : bits .and .i64 x1 1 = (t : Int) := by simpa using ht
          obtain ⟨u, hu, hu1⟩ := and_mask (x1 / 2) 63 (by omega)
          have hu : bits .and .i64 (x1 / 2) 63 = (u : Int) := by simpa using hu
          obtain ⟨s, hs⟩ : ∃ s : Nat, 1 - (t : Int) = (s : Int) := ⟨1 - t, by omega⟩
          have s2 : s < 2 := by omega
          have ts : (t : Int) = 1 - (s : Int) := by omega
          have s0 : (0 : Int) ≤ (s : Int) := by omega
          have ss : (s : Int) < 2 := by omega
          have HTS := Lib.hid ts; clear ts
          go_upto_region 21 with (go_at_call 8; refine (otake ⟨M5, HO5.out⟩ 1 (t : Int) (u : Int)).mono ?_; rw [wq_take (t : Int) HTS.out s2 u]; rintro e w6 ⟨A6, c6, rfl, hb6, M6, hm6⟩; have HB6 := Lib.hid hb6; clear hb6; have HM6 := Lib.hid hm6; clear hm6)
          have cg := HM6.out.cellG s2
          have cz := lt_of_heap HM6.out.got
          have cf := blk_frozen HM6.out.got s
          have hsl := HM6.out.sl (jG s)
          have hlg : (L5 (jG s)).length ≤ 40000 := by
            have h1 := (HI5.out.at_ s2).2
            rw [(HI5.out.at_ s2).1, List.length_append] at h1
            omega
          have htk : ((Q5 s).take u).length ≤ 63 := by rw [List.length_take]; omega
          have HSL := Lib.hid hsl; clear hsl
          go_wp2_with (at_builtin; refine wpList_append_sl _ rfl (.tmp 94) (.tmp 95) 22 rfl 5 i0 (.int .u8 0) 1 Try.underlying22 hi0 hz0 hz1 hz2 rfl _ _ _ (bytes (L5 (jG s))) rfl HSL.out A6 (min u (Q5 s).length) c6 (bytes ((Q5 s).take u)) rfl (by rw [bytes_len, List.length_take]) HB6.out.toSrc (fun e => by have := (HB6.out.nil e).1; rwa [List.length_take] at this) (bytes_one _) ?c3 ?c4 ?_)
          case c3 => unfold maxLen; omega
          case c4 => omega
          intro A7 c7 w7 hsl' hon' hrow'
          have hall4 := hon'.keep HM6.out.got (HM6.out.notRow HM6.out.got (jG s))
          have ca4 := (hon'.cell (p := ⟨b9, s, none⟩) cz (HM6.out.notRow HM6.out.got (jG s))).trans cg
          have cf4 := blk_frozen hall4 s
          have cz4 := lt_of_heap hall4
          have HO7 := Lib.hid (HM6.out.putG s2 (ys := (Q5 s).take u) (by rw [List.length_take]) hsl' hon' hrow')
          have HI7 := Lib.hid (HI5.out.take s2 u)
          clear hsl' hon' hrow' hall4
          go_wp2
          go_roundw
          case rel => exact ⟨k + 1, by omega, by go_num, _, _, ⟨_, HO7.out⟩, HI7.out⟩
          case measure => simp [intOf]; omega
        · have d1 : decide ((k : Int) < (n1 : Int)) = false := by simpa using hk1
          go_wp2
          go_roundw
          case rel => exact ⟨k + 1, by omega, by go_num, L5, Q5, ⟨M5, HO5.out⟩, HI5.out⟩
          case measure => simp [intOf]; omega
    · have hstop : n0 ≤ k ∨ (k < n0 ∧ 60 ≤ k) := by omega
      clear hc
      rcases hstop with h1 | ⟨h1, h2⟩
      all_goals
        go_wp2
        obtain ⟨wo, rfl⟩ : ∃ wo : World, wo = wr := ⟨_, rfl⟩
        go_loopw [16] (fun i wr => ∃ s : Nat, s ≤ 2 ∧ i = .int .i64 s ∧ O2 w p b8 b9 s wr) (fun i _ => 2 - (intOf i).toNat)
        case atStart => exact ⟨0, by omega, rfl, L, Q, HR.out, HI.out.mono (by omega)⟩
        case round =>
          clear HR HI
          obtain ⟨s, hs, rfl, L, Q, hr, hinv⟩ := hrel
          have HI := Lib.hid hinv; clear hinv
          by_cases hs2 : s < 2
          · have ds : decide ((s : Int) < 2) = true := by simp; omega
            obtain ⟨M, hm⟩ := hr
            have HM := Lib.hid hm; clear hm
            have s0 : (0 : Int) ≤ (s : Int) := by omega
            have ss : (s : Int) < 2 := by omega
            obtain ⟨bb, hbb⟩ : ∃ bb : Bool, bb = decide ((Q s).length = 0) := ⟨_, rfl⟩
            have dl : (((L (jG s)).length : Int) == ((L (jA s)).length : Int)) = bb := by rw [hbb]; exact HI.out.full hs2
            have HBB := Lib.hid hbb; clear hbb
            have ca := HM.out.cellA hs2
            have cg := HM.out.cellG hs2
            obtain ⟨t, ht⟩ : ∃ t : Nat, (t : Int) = 1 - (s : Int) := ⟨1 - s, by omega⟩
            have HWR := Lib.hid (show IntKind.i64.wrap (t : Int) = (t : Int) by rcases (show t = 0 ∨ t = 1 by omega) with rfl | rfl <;> rfl)
            have HT := Lib.hid ht
            have ht2 : 1 - (s : Int) = (t : Int) := ht.symm
            clear ht
            go_upto_region 25 with (fail)
            have HD := Lib.hid HM.out.drew
            have cc := one_conv
            /- HELD -/
            refine wp_region_noPanic ?_
            refine wp_region_held_drew (S := (fun w' => w'.cell? ⟨b9, s, none⟩ = some (.slice (M.r (jG s)).A (L (jG s)).length (M.r (jG s)).c) ∧ w'.cell? ⟨b8, s, none⟩ = some (.slice (M.r (jA s)).A (L (jA s)).length (M.r (jA s)).c))) (by kernel_rfl) ?_ (fun hHeld => ?_)
            · try dsimp only
              go_keep
            refine wpAnyH_take (i := 0) (v := ?_) (at_list rfl) (by kernel_rfl) (by kernel_rfl) (by kernel_rfl) (fun _ _ _ h => h) (Or.inl ⟨by rfl, ?_⟩) (by assumption) ?_
            rotate_left
            · intro w hSw
              try dsimp only at hSw
              go_simp
              try with_reducible rfl
            simp only [Act.put, List.setIfInBounds_toArray, List.set_cons_zero, List.set_cons_succ]
            refine wpAnyH_take (i := 1) (v := ?_) (at_list rfl) (by kernel_rfl) (by kernel_rfl) (by kernel_rfl) (fun _ _ _ h => h) (Or.inl ⟨by rfl, ?_⟩) (by assumption) ?_
            rotate_left
            · intro w hSw
              try dsimp only at hSw
              go_simp
              try with_reducible rfl
            simp only [Act.put, List.setIfInBounds_toArray, List.set_cons_zero, List.set_cons_succ]
            refine wpAnyH_take (i := 2) (v := ?_) (at_list rfl) (by kernel_rfl) (by kernel_rfl) (by kernel_rfl) (fun _ _ _ h => h) (Or.inl ⟨by rfl, ?_⟩) (by assumption) ?_
            rotate_left
            · intro w hSw
              try dsimp only at hSw
              go_simp
              try with_reducible rfl
            simp only [Act.put, List.setIfInBounds_toArray, List.set_cons_zero, List.set_cons_succ]
            refine wpAnyH_ready (rs := [3]) (by kernel_rfl) (by simp) ?_
            refine AllReadyH.cons (at_list rfl) (fun KK hKK => ?_) AllReadyH.nil
            go_simp
            go_at_call 10
            refine (xshut HD.out 1 (s : Int)).mono ?_
            rw [wq_shut hs2]
            rintro e w3 ⟨rfl, N3, hm3⟩
            have HM3 := Lib.hid hm3; clear hm3
            have q3G : w3.cell? ⟨b9, s, none⟩ = some (.slice (M.r (jG s)).A (L (jG s)).length (M.r (jG s)).c) := HM3.out.cellG hs2
            have q3A : w3.cell? ⟨b8, s, none⟩ = some (.slice (M.r (jA s)).A (L (jA s)).length (M.r (jA s)).c) := HM3.out.cellA hs2
            have z3 := lt_of_heap HM3.out.all
            have y3 := lt_of_heap HM3.out.got
            try go_wp2_with fail
            refine hKK.out _ _ ?_ (fun hHeld2 => ?_)
            · try dsimp only
              go_keep
            clear hKK KK hHeld
            rename _ => hHeld
            try simp only [Act.put, List.setIfInBounds_toArray, List.set_cons_zero, List.set_cons_succ]
            refine wpAnyH_take (i := 4) (v := ?_) (at_list rfl) (by kernel_rfl) (by kernel_rfl) (by kernel_rfl) (fun _ _ _ h => h) (Or.inl ⟨by rfl, ?_⟩) (by assumption) ?_
            rotate_left
            · intro w hSw
              try dsimp only at hSw
              go_simp
              try with_reducible rfl
            simp only [Act.put, List.setIfInBounds_toArray, List.set_cons_zero, List.set_cons_succ]
            refine wpAnyH_take (i := 5) (v := ?_) (at_list rfl) (by kernel_rfl) (by kernel_rfl) (by kernel_rfl) (fun _ _ _ h => h) (Or.inl ⟨by rfl, ?_⟩) (by assumption) ?_
            rotate_left
            · intro w hSw
              try dsimp only at hSw
              go_simp
              try with_reducible rfl
            simp only [Act.put, List.setIfInBounds_toArray, List.set_cons_zero, List.set_cons_succ]
            refine wpAnyH_take (i := 6) (v := ?_) (at_list rfl) (by kernel_rfl) (by kernel_rfl) (by kernel_rfl) (fun _ _ _ h => h) (Or.inl ⟨by rfl, ?_⟩) (by assumption) ?_
            rotate_left
            · intro w hSw
              try dsimp only at hSw
              go_simp
              try with_reducible rfl
            simp only [Act.put, List.setIfInBounds_toArray, List.set_cons_zero, List.set_cons_succ]
            refine wpAnyH_take (i := 7) (v := ?_) (at_list rfl) (by kernel_rfl) (by kernel_rfl) (by kernel_rfl) (fun _ _ _ h => h) (Or.inl ⟨by rfl, ?_⟩) (by assumption) ?_
            rotate_left
            · intro w hSw
              try dsimp only at hSw
              go_simp
              try with_reducible rfl
            simp only [Act.put, List.setIfInBounds_toArray, List.set_cons_zero, List.set_cons_succ]
            refine wpAnyH_take (i := 8) (v := ?_) (at_list rfl) (by kernel_rfl) (by kernel_rfl) (by kernel_rfl) (fun _ _ _ h => h) (Or.inl ⟨by rfl, ?_⟩) (by assumption) ?_
            rotate_left
            · intro w hSw
              try dsimp only at hSw
              go_simp
              try with_reducible rfl
            simp only [Act.put, List.setIfInBounds_toArray, List.set_cons_zero, List.set_cons_succ]
            refine wpAnyH_ready (rs := [9]) (by kernel_rfl) (by simp) ?_
            refine AllReadyH.cons (at_list rfl) (fun KK hKK => ?_) AllReadyH.nil
            go_simp
            refine hKK.out _ _ ?_ (fun hHeld2 => ?_)
            · try dsimp only
              go_keep
            clear hKK KK hHeld
            rename _ => hHeld
            try simp only [Act.put, List.setIfInBounds_toArray, List.set_cons_zero, List.set_cons_succ]
            refine wpAnyH_ready (rs := [10]) (by kernel_rfl) (by simp) ?_
            refine AllReadyH.cons (at_list rfl) (fun KK hKK => ?_) AllReadyH.nil
            go_simp
            refine hKK.out _ _ ?_ (fun hHeld2 => ?_)
            · try dsimp only
              go_keep
            clear hKK KK hHeld
            rename _ => hHeld
            try simp only [Act.put, List.setIfInBounds_toArray, List.set_cons_zero, List.set_cons_succ]
            refine wpAnyH_ready (rs := [11]) (by kernel_rfl) (by simp) ?_
            refine AllReadyH.cons (at_list rfl) (fun KK hKK => ?_) AllReadyH.nil
            go_simp
            go_at_call 9
            refine (xsend (HM3.out.alloc _) 1 (s : Int) (one_bts _)).mono ?_
            rw [wq_send_shut hs2]
            rintro e w4 ⟨rfl, N4, hm4⟩
            have HM4 := Lib.hid hm4; clear hm4
            have q4G : w4.cell? ⟨b9, s, none⟩ = some (.slice (M.r (jG s)).A (L (jG s)).length (M.r (jG s)).c) := HM4.out.cellG hs2
            have q4A : w4.cell? ⟨b8, s, none⟩ = some (.slice (M.r (jA s)).A (L (jA s)).length (M.r (jA s)).c) := HM4.out.cellA hs2
            try go_wp2_with fail
            refine hKK.out _ _ ?_ (fun hHeld2 => ?_)
            · try dsimp only
              go_keep
            clear hKK KK hHeld
            rename _ => hHeld
            try simp only [Act.put, List.setIfInBounds_toArray, List.set_cons_zero, List.set_cons_succ]
            clear q3G q3A z3 y3 HM3 cc HD HM
            refine wpAnyH_take (i := 12) (v := ?_) (at_list rfl) (by kernel_rfl) (by kernel_rfl) (by kernel_rfl) (fun _ _ _ h => h) (Or.inl ⟨by rfl, ?_⟩) (by assumption) ?_
            rotate_left
            · intro w hSw
              try dsimp only at hSw
              go_simp
              try with_reducible rfl
            simp only [Act.put, List.setIfInBounds_toArray, List.set_cons_zero, List.set_cons_succ]
            refine wpAnyH_take (i := 13) (v := ?_) (at_list rfl) (by kernel_rfl) (by kernel_rfl) (by kernel_rfl) (fun _ _ _ h => h) (Or.inl ⟨by rfl, ?_⟩) (by assumption) ?_
            rotate_left
            · intro w hSw
              try dsimp only at hSw
              go_simp
              try with_reducible rfl
            simp only [Act.put, List.setIfInBounds_toArray, List.set_cons_zero, List.set_cons_succ]
            refine wpAnyH_take (i := 14) (v := ?_) (at_list rfl) (by kernel_rfl) (by kernel_rfl) (by kernel_rfl) (fun _ _ _ h => h) (Or.inl ⟨by rfl, ?_⟩) (by assumption) ?_
            rotate_left
            · intro w hSw
              try dsimp only at hSw
              go_simp
              try with_reducible rfl
            simp only [Act.put, List.setIfInBounds_toArray, List.set_cons_zero, List.set_cons_succ]
            refine wpAnyH_take (i := 15) (v := ?_) (at_list rfl) (by kernel_rfl) (by kernel_rfl) (by kernel_rfl) (fun _ _ _ h => h) (Or.inl ⟨by rfl, ?_⟩) (by assumption) ?_
            rotate_left
            · intro w hSw
              try dsimp only at hSw
              go_simp
              try with_reducible rfl
            simp only [Act.put, List.setIfInBounds_toArray, List.set_cons_zero, List.set_cons_succ]
            refine wpAnyH_take (i := 16) (v := ?_) (at_list rfl) (by kernel_rfl) (by kernel_rfl) (by kernel_rfl) (fun _ _ _ h => h) (Or.inl ⟨by rfl, ?_⟩) (by assumption) ?_
            rotate_left
            · intro w hSw
              try dsimp only at hSw
              go_simp
              try with_reducible rfl
            simp only [Act.put, List.setIfInBounds_toArray, List.set_cons_zero, List.set_cons_succ]
            refine wpAnyH_take (i := 17) (v := ?_) (at_list rfl) (by kernel_rfl) (by kernel_rfl) (by kernel_rfl) (fun _ _ _ h => h) (Or.inl ⟨by rfl, ?_⟩) (by assumption) ?_
            rotate_left
            · intro w hSw
              try dsimp only at hSw
              go_simp
              try with_reducible rfl
            simp only [Act.put, List.setIfInBounds_toArray, List.set_cons_zero, List.set_cons_succ]
            refine wpAnyH_take (i := 18) (v := ?_) (at_list rfl) (by kernel_rfl) (by kernel_rfl) (by kernel_rfl) (fun _ _ _ h => h) (Or.inl ⟨by rfl, ?_⟩) (by assumption) ?_
            rotate_left
            · intro w hSw
              try dsimp only at hSw
              go_simp
              try with_reducible rfl
            simp only [Act.put, List.setIfInBounds_toArray, List.set_cons_zero, List.set_cons_succ]
            refine wpAnyH_take (i := 20) (v := ?_) (at_list rfl) (by kernel_rfl) (by kernel_rfl) (by kernel_rfl) (fun _ _ _ h => h) (Or.inl ⟨by rfl, ?_⟩) (by assumption) ?_
            rotate_left
            · intro w hSw
              try dsimp only at hSw
              go_simp
              try with_reducible rfl
            simp only [Act.put, List.setIfInBounds_toArray, List.set_cons_zero, List.set_cons_succ]
            refine wpAnyH_take (i := 21) (v := ?_) (at_list rfl) (by kernel_rfl) (by kernel_rfl) (by kernel_rfl) (fun _ _ _ h => h) (Or.inl ⟨by rfl, ?_⟩) (by assumption) ?_
            rotate_left
            · intro w hSw
              try dsimp only at hSw
              go_simp
              try with_reducible rfl
            simp only [Act.put, List.setIfInBounds_toArray, List.set_cons_zero, List.set_cons_succ]
            refine wpAnyH_take (i := 22) (v := ?_) (at_list rfl) (by kernel_rfl) (by kernel_rfl) (by kernel_rfl) (fun _ _ _ h => h) (Or.inl ⟨by rfl, ?_⟩) (by assumption) ?_
            rotate_left
            · intro w hSw
              try dsimp only at hSw
              go_simp
              try with_reducible rfl
            simp only [Act.put, List.setIfInBounds_toArray, List.set_cons_zero, List.set_cons_succ]
            refine wpAnyH_take (i := 23) (v := ?_) (at_list rfl) (by kernel_rfl) (by kernel_rfl) (by kernel_rfl) (fun _ _ _ h => h) (Or.inl ⟨by rfl, ?_⟩) (by assumption) ?_
            rotate_left
            · intro w hSw
              try dsimp only at hSw
              go_simp
              try with_reducible rfl
            simp only [Act.put, List.setIfInBounds_toArray, List.set_cons_zero, List.set_cons_succ]
            refine wpAnyH_take (i := 24) (v := ?_) (at_list rfl) (by kernel_rfl) (by kernel_rfl) (by kernel_rfl) (fun _ _ _ h => h) (Or.inl ⟨by rfl, ?_⟩) (by assumption) ?_
            rotate_left
            · intro w hSw
              try dsimp only at hSw
              go_simp
              try with_reducible rfl
            simp only [Act.put, List.setIfInBounds_toArray, List.set_cons_zero, List.set_cons_succ]
            refine wpAnyH_take (i := 25) (v := ?_) (at_list rfl) (by kernel_rfl) (by kernel_rfl) (by kernel_rfl) (fun _ _ _ h => h) (Or.inl ⟨by rfl, ?_⟩) (by assumption) ?_
            rotate_left
            · intro w hSw
              try dsimp only at hSw
              go_simp
              try with_reducible rfl
            simp only [Act.put, List.setIfInBounds_toArray, List.set_cons_zero, List.set_cons_succ]
            refine wpAnyH_take (i := 26) (v := ?_) (at_list rfl) (by kernel_rfl) (by kernel_rfl) (by kernel_rfl) (fun _ _ _ h => h) (Or.inl ⟨by rfl, ?_⟩) (by assumption) ?_
            rotate_left
            · intro w hSw
              try dsimp only at hSw
              go_simp
              try with_reducible rfl
            simp only [Act.put, List.setIfInBounds_toArray, List.set_cons_zero, List.set_cons_succ]
            refine wpAnyH_take (i := 27) (v := ?_) (at_list rfl) (by kernel_rfl) (by kernel_rfl) (by kernel_rfl) (fun _ _ _ h => h) (Or.inl ⟨by rfl, ?_⟩) (by assumption) ?_
            rotate_left
            · intro w hSw
              try dsimp only at hSw
              go_simp
              try with_reducible rfl
            simp only [Act.put, List.setIfInBounds_toArray, List.set_cons_zero, List.set_cons_succ]
            refine wpAnyH_take (i := 28) (v := ?_) (at_list rfl) (by kernel_rfl) (by kernel_rfl) (by kernel_rfl) (fun _ _ _ h => h) (Or.inl ⟨by rfl, ?_⟩) (by assumption) ?_
            rotate_left
            · intro w hSw
              try dsimp only at hSw
              go_simp
              try with_reducible rfl
            simp only [Act.put, List.setIfInBounds_toArray, List.set_cons_zero, List.set_cons_succ]
            refine wpAnyH_ready (rs := [19]) (by kernel_rfl) (by simp) ?_
            refine AllReadyH.cons (at_list rfl) (fun KK hKK => ?_) AllReadyH.nil
            go_simp
            go_at_call 13
            try rw [HWR.out]
            refine (xended HM4.out 1 (t : Int)).mono ?_
            rw [wq_ended _ HT.out hs2, ← HBB.out]
            rintro e w5 ⟨rfl, hm5⟩
            have HM5 := Lib.hid hm5; clear hm5
            have q5G : w5.cell? ⟨b9, s, none⟩ = some (.slice (M.r (jG s)).A (L (jG s)).length (M.r (jG s)).c) := HM5.out.cellG hs2
            have q5A : w5.cell? ⟨b8, s, none⟩ = some (.slice (M.r (jA s)).A (L (jA s)).length (M.r (jA s)).c) := HM5.out.cellA hs2
            try go_wp2_with fail
            refine hKK.out _ _ ?_ (fun hHeld2 => ?_)
            · try dsimp only
              go_keep
            clear hKK KK hHeld
            rename _ => hHeld
            try simp only [Act.put, List.setIfInBounds_toArray, List.set_cons_zero, List.set_cons_succ]
            refine wpAnyH_take (i := 29) (v := ?_) (at_list rfl) (by kernel_rfl) (by kernel_rfl) (by kernel_rfl) (fun _ _ _ h => h) (Or.inl ⟨by rfl, ?_⟩) (by assumption) ?_
            rotate_left
            · intro w hSw
              try dsimp only at hSw
              go_simp
              try with_reducible rfl
            simp only [Act.put, List.setIfInBounds_toArray, List.set_cons_zero, List.set_cons_succ]
            refine wpAnyH_take (i := 30) (v := ?_) (at_list rfl) (by kernel_rfl) (by kernel_rfl) (by kernel_rfl) (fun _ _ _ h => h) (Or.inl ⟨by rfl, ?_⟩) (by assumption) ?_
            rotate_left
            · intro w hSw
              try dsimp only at hSw
              go_simp
              try with_reducible rfl
            simp only [Act.put, List.setIfInBounds_toArray, List.set_cons_zero, List.set_cons_succ]
            refine wpAnyH_done (by kernel_rfl) ?_ _
            refine NoPanic.normal ?_
            /- DLEH -/
            clear q4G q4A q5G q5A dl ca cg HM4
            have hlong := HI.out.long hs2
            have HLONG := Lib.hid hlong; clear hlong
            go_upto_region 28 with (go_at_call 8; refine (otake ⟨_, HM5.out⟩ 1 (t : Int) 1048576).mono ?_; rw [wq_take_all (t : Int) HT.out hs2 (by have := HLONG.out.1; omega)]; rintro e w6 ⟨A6, c6, rfl, hb6, M6, hm6⟩; have HB6 := Lib.hid hb6; clear hb6; have HM6 := Lib.hid hm6; clear hm6)
            have cg := HM6.out.cellG hs2
            have cz := lt_of_heap HM6.out.got
            have cf := blk_frozen HM6.out.got s
            have hsl := HM6.out.sl (jG s)
            have HSL := Lib.hid hsl; clear hsl
            have hlq := HLONG.out.1
            have hlg := HLONG.out.2
            go_wp2_with (at_builtin; refine wpList_append_sl _ rfl (.tmp 144) (.tmp 145) 22 rfl 5 i0 (.int .u8 0) 1 Try.underlying22 hi0 hz0 hz1 hz2 rfl _ _ _ (bytes (L (jG s))) rfl HSL.out A6 (Q s).length c6 (bytes (Q s)) rfl (bytes_len _) HB6.out.toSrc (fun e => (HB6.out.nil e).1) (bytes_one _) ?c3 ?c4 ?_)
            case c3 => unfold maxLen; omega
            case c4 => omega
            intro A7 c7 w7 hsl' hon' hrow'
            have hall4 := hon'.keep HM6.out.got (HM6.out.notRow HM6.out.got (jG s))
            have ca4 := (hon'.cell (p := ⟨b9, s, none⟩) cz (HM6.out.notRow HM6.out.got (jG s))).trans cg
            have cf4 := blk_frozen hall4 s
            have cz4 := lt_of_heap hall4
            have HM8 := Lib.hid (HM6.out.putG hs2 (ys := Q s) rfl hsl' hon' hrow')
            have HI8 := Lib.hid (HI.out.takeAll hs2)
            clear hsl' hon' hrow' hall4
            go_upto_region 29 with (fail)
            clear ca4 cf4 cz4 cg cf cz HSL HM6 hlq hlg HB6 HI HM5 HBB HLONG
            generalize w7.setCell ⟨b9, s, none⟩ (.slice A7 ((L (jG s)).length + (Q s).length) c7) = w8 at HM8 ⊢
            generalize ({ M6 with r := putR M6.r (jG s) ⟨A7, c7⟩ } : OMem) = M8 at HM8
            have hq0 : upQ Q s [] s = [] := by simp [upQ]
            generalize upQ Q s [] = Q8 at HM8 HI8 hq0
            generalize putL L (jG s) (L (jG s) ++ Q s) = L8 at HM8 HI8
            obtain ⟨S, hSG⟩ : ∃ S : ByteArray, (⟨(L8 (jG s)).toArray⟩ : ByteArray) = S := ⟨_, rfl⟩
            have hSA : (⟨(L8 (jA s)).toArray⟩ : ByteArray) = S := by rw [← hSG, (HI8.out.at_ hs2).1, hq0, List.append_nil]
            have HSG := Lib.hid hSG; clear hSG
            have HSA := Lib.hid hSA; clear hSA
            have e13 : endedF [wireQ Q8 (s + 1)] 1 (t : Int) = true := by rw [wq_ended _ HT.out hs2, hq0]; rfl
            have e12 : waitingF [wireQ Q8 (s + 1)] 1 (t : Int) = 0 := by rw [wq_waiting _ HT.out hs2, hq0]; rfl
            have E13 := Lib.hid e13; clear e13
            have E12 := Lib.hid e12; clear e12
            have HQ0 := Lib.hid hq0; clear hq0
            have HD8 := Lib.hid HM8.out.drew
            have q8G : (w8.drew).cell? ⟨b9, s, none⟩ = some (.slice (M8.r (jG s)).A (L8 (jG s)).length (M8.r (jG s)).c) := HD8.out.cellG hs2; have q8A : (w8.drew).cell? ⟨b8, s, none⟩ = some (.slice (M8.r (jA s)).A (L8 (jA s)).length (M8.r (jA s)).c) := HD8.out.cellA hs2; have v8G : (convert 22 9 (.slice (M8.r (jG s)).A (L8 (jG s)).length (M8.r (jG s)).c)).run Try.prog (w8.drew) = .ok (.string S) (w8.drew) := HSG.out ▸ HD8.out.conv (jG s); have v8A : (convert 22 9 (.slice (M8.r (jA s)).A (L8 (jA s)).length (M8.r (jA s)).c)).run Try.prog (w8.drew) = .ok (.string S) (w8.drew) := HSA.out ▸ HD8.out.conv (jA s)
            go_region_held3 (fun w' => w'.cell? ⟨b9, s, none⟩ = some (.slice (M8.r (jG s)).A (L8 (jG s)).length (M8.r (jG s)).c) ∧ w'.cell? ⟨b8, s, none⟩ = some (.slice (M8.r (jA s)).A (L8 (jA s)).length (M8.r (jA s)).c) ∧
                (convert 22 9 (.slice (M8.r (jG s)).A (L8 (jG s)).length (M8.r (jG s)).c)).run Try.prog w' = .ok (.string S) w' ∧ (convert 22 9 (.slice (M8.r (jA s)).A (L8 (jA s)).length (M8.r (jA s)).c)).run Try.prog w' = .ok (.string S) w')
              (go_keep)
              (first
                | (go_at_call 13; rw [HWR.out]; refine (xended HD8.out 1 (t : Int)).mono ?_; rw [E13.out]; rintro e w9 ⟨rfl, hm9⟩; have HM9 := Lib.hid hm9; clear hm9; have q9G : (w9).cell? ⟨b9, s, none⟩ = some (.slice (M8.r (jG s)).A (L8 (jG s)).length (M8.r (jG s)).c) := HM9.out.cellG hs2; have q9A : (w9).cell? ⟨b8, s, none⟩ = some (.slice (M8.r (jA s)).A (L8 (jA s)).length (M8.r (jA s)).c) := HM9.out.cellA hs2; have v9G : (convert 22 9 (.slice (M8.r (jG s)).A (L8 (jG s)).length (M8.r (jG s)).c)).run Try.prog (w9) = .ok (.string S) (w9) := HSG.out ▸ HM9.out.conv (jG s); have v9A : (convert 22 9 (.slice (M8.r (jA s)).A (L8 (jA s)).length (M8.r (jA s)).c)).run Try.prog (w9) = .ok (.string S) (w9) := HSA.out ▸ HM9.out.conv (jA s))
                | (go_at_call 12; rw [HWR.out]; refine (xwaiting HM9.out 1 (t : Int)).mono ?_; rw [E12.out]; rintro e w10 ⟨rfl, hm10⟩; have HM10 := Lib.hid hm10; clear hm10; have q10G : (w10).cell? ⟨b9, s, none⟩ = some (.slice (M8.r (jG s)).A (L8 (jG s)).length (M8.r (jG s)).c) := HM10.out.cellG hs2; have q10A : (w10).cell? ⟨b8, s, none⟩ = some (.slice (M8.r (jA s)).A (L8 (jA s)).length (M8.r (jA s)).c) := HM10.out.cellA hs2; have v10G : (convert 22 9 (.slice (M8.r (jG s)).A (L8 (jG s)).length (M8.r (jG s)).c)).run Try.prog (w10) = .ok (.string S) (w10) := HSG.out ▸ HM10.out.conv (jG s); have v10A : (convert 22 9 (.slice (M8.r (jA s)).A (L8 (jA s)).length (M8.r (jA s)).c)).run Try.prog (w10) = .ok (.string S) (w10) := HSA.out ▸ HM10.out.conv (jA s)))
            go_wp2
            go_roundw
            case rel => exact ⟨s + 1, by omega, by go_num, L8, Q8, ⟨M8, HM10.out⟩, HI8.out⟩
            case measure => simp [intOf]; omega
          · obtain ⟨M, hm⟩ := hr
            have HM := Lib.hid hm; clear hm
            have s2 : s = 2 := by omega
            have ds : decide ((s : Int) < 2) = false := by simp; omega
            clear hs2
            go_wp2_with (first
              | (go_at_call 11; refine (oreset HR3.out 1).mono ?_; rw [one_reset_lost]; rintro e w4 ⟨rfl, hr4⟩; have HR4 := Lib.hid hr4; clear hr4)
              | (go_at_call 11; refine (oreset ⟨M, HM.out⟩ 1).mono ?_; rw [wq_reset]; rintro e w3 ⟨rfl, hr3⟩; have HR3 := Lib.hid hr3; clear hr3))
            go_ret
            obtain ⟨M4, hm4⟩ := HR4.out
            exact ⟨rfl, hm4.below⟩
theorem order_law (w : World) (A0 : Option Addr) (n0 c0 : Nat) (l0 : List (Option Addr × Nat × Nat × List UInt8)) (hnc0 : n0 ≤ c0) (hcm0 : c0 ≤ maxLen) (_ : A0 = none → n0 = 0 ∧ c0 = 0) (arg0 : StructsArg bbCells 1 w A0 n0 l0) (el0 : ∀ x ∈ l0, BbAt w x)
    (A1 : Option Addr) (n1 c1 : Nat) (l1 : List Int) (hnc1 : n1 ≤ c1) (hcm1 : c1 ≤ maxLen) (_ : A1 = none → n1 = 0 ∧ c1 = 0) (arg1 : IntsArg .i64 w A1 n1 l1) :
    Calls Try.prog 5 #[.slice A0 n0 c0, .slice A1 n1 c1] w fun e w' => e = .returned (.bool true) ∧ Below w.heap.size w w' :=
  order_walk w A0 n0 c0 l0 hcm0 hnc0 arg0 el0 A1 n1 c1 l1 hnc1 hcm1 arg1
end Go.Proofs.Ytdigeppbflkknaa
