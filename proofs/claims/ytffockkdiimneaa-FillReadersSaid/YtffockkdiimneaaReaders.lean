/-
  The walk of FillReaders. No conditions.
-/
import Derived.Test.YtffockkdiimneaaReader
import Derived.Lib.SlBytesConst
import Derived.Lib.SmallJoins
namespace Go.Proofs.Ytffockkdiimneaa
open Go.RowKit
set_option linter.unusedVariables false
set_option linter.unusedSimpArgs false

/-- Between two rounds of the second loop: what was put behind is b. -/
def RL (w : World) (p b7 b8 b11 b16 : Nat) (k : Nat) (wr : World) : Prop :=
  ∃ M L, RAt w p b7 b8 b11 b16 M (rd (L 3) 0 4) L wr ∧ (L 3).length ≤ 500 * k ∧ ∀ j : Fin 4, j.1 < 3 → Begins (L 3) (L j)
theorem at_list {α : Type} {l : List α} {i : Nat} {x : α} (h : l[i]? = some x) : l.toArray[i]? = some x := by rw [List.getElem?_toArray]; exact h
theorem one_bts (w : World) : Bts (w.alloc (.cells #[.int .u8 120] 5 (1, 2))) (some ⟨w.heap.size, 0, none⟩) 1 1 [120] :=
  ⟨rfl, Nat.le_refl _, by unfold maxLen; omega, fun e => (nomatch e), fun _ => ⟨w.heap.size, 0, rfl, by simp, fun i u hu => by
    rw [Nat.zero_add, World.cell?_alloc_mark, ← hu]
    cases i with
    | zero => rfl
    | succ i => simp [bytes]⟩⟩
theorem one_conv (w : World) : (convert 22 22 (.slice (some ⟨w.heap.size, 0, none⟩) 1 1)).run Try.prog (w.alloc (.cells #[.int .u8 120] 5)) = .ok (.slice (some ⟨w.heap.size, 0, none⟩) 1 1) (w.alloc (.cells #[.int .u8 120] 5 (1, 2))) :=
  Lib.run_convert_bytes_const w 22 5 #[.int .u8 120] 1 1 Try.underlying22 Try.underlying5
/-- Between two rounds of the third loop. -/
def RK (w : World) (p b7 b8 b11 b16 : Nat) (b : List UInt8) (s k : Nat) (wr : World) : Prop :=
  ∃ M L, RAt w p b7 b8 b11 b16 M (rk b s k) L wr ∧ L 3 = b ∧ ∀ j : Fin 4, j.1 < 3 → Begins b (L j)
/-- Between two rounds of the first loop. -/
structure R1 (w : World) (p b7 b8 b11 : Nat) (k : Nat) (wr : World) : Prop where
  desk : DRel w p (rd [] 0 (k + 1)) wr
  bd : wr.heap[b7]? = some (.cells #[.pointer (some ⟨p, 0, none⟩)] 24 (0, 0))
  bi : wr.heap[b8]? = some (.cells #[.int .i64 1] 3 (0, 0))
  got : wr.heap[b11]? = some (.cells #[.slice none 0 0, .slice none 0 0, .slice none 0 0] 40 (0, 0))
  lo : w.heap.size ≤ b7 ∧ w.heap.size ≤ b8 ∧ w.heap.size ≤ b11
theorem R1.start {w w2 : World} {p b7 : Nat} (h : DRel w p (rd [] 0 1) w2) (h7 : w2.heap[b7]? = some (.cells #[.pointer (some ⟨p, 0, none⟩)] 24 (0, 0))) (lo : w.heap.size ≤ b7) :
    R1 w p b7 w2.heap.size (w2.heap.size + 1) 0 ((w2.alloc (.cells #[.int .i64 1] 3)).alloc (.cells #[.slice none 0 0, .slice none 0 0, .slice none 0 0] 40)) := by
  have hs := h.below.size
  refine ⟨h.quiet (((Only.refl _ _).alloc _).alloc _), blk_alloc (blk_alloc h7 _) _, blk_alloc (blk_new w2 _) _, ?_, lo, hs, by omega⟩
  have := blk_new (w2.alloc (.cells #[.int .i64 1] 3)) (.cells #[.slice none 0 0, .slice none 0 0, .slice none 0 0] 40)
  rwa [World.size_alloc] at this
theorem kb1 {w wr : World} {p b7 b8 b11 k : Nat} (h : R1 w p b7 b8 b11 k wr) (hk : k ≤ 3) :
    Calls Try.prog 9 #[.pointer (some ⟨p, 0, none⟩), .string ⟨#[120]⟩] wr fun x w2 => x = .returned (.tuple #[.int .i64 1, .bool false, .int .i64 0]) ∧ R1 w p b7 b8 b11 (k + 1) w2 := by
  refine (kbegin h.desk (by show 1 < 4611686018427387904; omega) (by intro e he; simp [rd] at he; subst he; show k + 1 < 4611686018427387904; omega) (r_begin [] (k + 1))).mono ?_
  rintro x w2 ⟨rfl, h1, h2⟩
  exact ⟨rfl, h1, h2 _ _ _ h.bd (by decide) (by decide) (by decide), h2 _ _ _ h.bi (by decide) (by decide) (by decide), h2 _ _ _ h.got (by decide) (by decide) (by decide), h.lo⟩
theorem RL.quiet {w wr w' : World} {p b7 b8 b11 b16 k : Nat} (h : RL w p b7 b8 b11 b16 k wr) (hq : Quiet wr w') : RL w p b7 b8 b11 b16 k w' := by
  obtain ⟨M, L, h1, h2, h3⟩ := h
  exact ⟨M, L, h1.quiet hq, h2, h3⟩
theorem rl_read {w w7 : World} {p b7 b8 b11 b16 k : Nat} {M : RMem} {L : Fin 4 → List UInt8} {j : Fin 4} (hj : j.1 < 3) {u : Nat} (h : RAt w p b7 b8 b11 b16 M (rd (L 3) 0 4) (putL L j (L j ++ ((L 3).drop (L j).length).take u)) w7) (hbl : (L 3).length ≤ 500 * k) (hbeg : ∀ j : Fin 4, j.1 < 3 → Begins (L 3) (L j)) : RL w p b7 b8 b11 b16 k w7 := by
  have e3 : putL L j (L j ++ ((L 3).drop (L j).length).take u) 3 = L 3 := by unfold putL; rw [if_neg (by intro q; rw [← q] at hj; exact absurd hj (by decide))]
  refine ⟨M, putL L j (L j ++ ((L 3).drop (L j).length).take u), by rw [e3]; exact h, by rw [e3]; exact hbl, fun i hi => ?_⟩
  rw [e3]
  unfold putL
  split
  · exact (hbeg j hj).read u
  · exact hbeg i hi
theorem rl_next {w w6 : World} {p b7 b8 b11 b16 k : Nat} {M : RMem} {L : Fin 4 → List UInt8} {l : List UInt8} {A' : Option Addr} {c' : Nat} (h : RAt w p b7 b8 b11 b16 { M with r := putR M.r 3 ⟨A', c'⟩ } (rd (L 3 ++ l) 0 4) (putL L 3 (L 3 ++ l)) w6) (hbl : (L 3).length ≤ 500 * k) (hl : l.length ≤ 500) (hbeg : ∀ j : Fin 4, j.1 < 3 → Begins (L 3) (L j)) : RL w p b7 b8 b11 b16 (k + 1) w6 := by
  have e3 : putL L 3 (L 3 ++ l) 3 = L 3 ++ l := by simp [putL]
  refine ⟨{ M with r := putR M.r 3 ⟨A', c'⟩ }, putL L 3 (L 3 ++ l), ?_, ?_, fun j hj => ?_⟩
  · rw [e3]; exact h
  · rw [e3, List.length_append]; omega
  · rw [e3]
    have : putL L 3 (L 3 ++ l) j = L j := by unfold putL; rw [if_neg (by intro q; rw [q] at hj; exact absurd hj (by decide))]
    rw [this]
    exact (hbeg j hj).more l
set_option maxRecDepth 8000 in
set_option maxHeartbeats 16000000 in
theorem readers_walk (w : World) (A0 : Option Addr) (n0 c0 : Nat) (l0 : List (Option Addr × Nat × Nat × List UInt8)) (hcm0 : c0 ≤ maxLen) (hnc0 : n0 ≤ c0) (arg0 : StructsArg bbCells 1 w A0 n0 l0) (el0 : ∀ x ∈ l0, BbAt w x)
    (A1 : Option Addr) (n1 c1 : Nat) (l1 : List Int) (hnc1 : n1 ≤ c1) (hcm1 : c1 ≤ maxLen) (arg1 : IntsArg .i64 w A1 n1 l1) (whole : Bool) :
    Calls Try.prog 5 #[.slice A0 n0 c0, .slice A1 n1 c1, .bool whole] w fun e w' => e = .returned (.bool true) ∧ Below w.heap.size w w' := by
  unfold maxLen at hcm0 hcm1
  obtain ⟨i0, hi0, hz0, hz1, hz2⟩ := info_parts Try.row5r
  have AR0 := Lib.hid arg0; clear arg0
  have EL0 := Lib.hid el0; clear el0
  have AR1 := Lib.hid arg1; clear arg1
  have mf : ∀ (fn : Fn) (first cap : Array Value) (w : World), (Instr.makeFunc fn first cap).run Try.prog w = .ok (.func fn first cap) w := fun _ _ _ _ => rfl
  go_enter Try.func5, Try.ntmps5
  go_upto_region 2 with (go_at_call 8; refine (new_at _).mono ?_; rintro e w1 ⟨D, rfl, hD, hq, hown⟩; unfold ptr; have HR := Lib.hid (DRel.start (Below.refl _ _) hD hq hown); clear hD hq hown; generalize D.p = p at HR ⊢)
  obtain ⟨b7, hb7⟩ : ∃ b7, b7 = w1.heap.size := ⟨_, rfl⟩
  have lo7 : w.heap.size ≤ b7 := by rw [hb7]; exact HR.out.below.size
  have k7 := Lib.hid (show (w1.alloc (.cells #[.pointer (some ⟨p, 0, none⟩)] 24)).heap[b7]? = some (.cells #[.pointer (some ⟨p, 0, none⟩)] 24 (0, 0)) by rw [hb7]; exact blk_new _ _)
  have C0 := Lib.hid (kbegin (HR.out.quiet ((Only.refl _ _).alloc (.cells #[.pointer (some ⟨p, 0, none⟩)] 24))) (by decide) (by simp [newDesk]) r_begin0)
  rw [← hb7]
  clear hb7
  have c7 := blk_cell k7.out 0
  simp only [List.getElem?_toArray, List.getElem?_cons_zero] at c7
  have s7 := lt_of_heap k7.out
  go_upto_region 5 with (go_at_call 9; refine C0.out.mono ?_; rintro e w2 ⟨rfl, hr2, hk2⟩; have HR2 := Lib.hid hr2; have K7 := Lib.hid (hk2 _ _ _ k7.out (by decide) (by decide) (by decide)); clear hr2 hk2)
  have hst : R1 w p b7 w2.heap.size (w2.heap.size + 1) 0 ((w2.alloc (.cells #[.int .i64 1] 3)).alloc (.cells #[.slice none 0 0, .slice none 0 0, .slice none 0 0] 40)) := R1.start HR2.out K7.out lo7
  have HST := Lib.hid hst; clear hst
  clear HR HR2 k7 K7 C0 lo7 c7 s7
  go_wp2
  have hst := HST.out; clear HST
  generalize w2.heap.size + 1 = b11 at hst ⊢
  generalize w2.heap.size = b8 at hst ⊢
  go_loopw [12] (fun i wr => ∃ k : Nat, k ≤ 3 ∧ i = .int .i64 k ∧ R1 w p b7 b8 b11 k wr) (fun i _ => 3 - (intOf i).toNat)
  case atStart => exact ⟨0, by omega, rfl, hst⟩
  case round =>
    clear hst
    obtain ⟨k, hk, rfl, hr⟩ := hrel
    have HR := Lib.hid hr
    have c7 := blk_cell hr.bd 0
    have c8 := blk_cell hr.bi 0
    simp only [List.getElem?_toArray, List.getElem?_cons_zero] at c7 c8
    have C1 := Lib.hid (kb1 hr hk)
    clear hr
    by_cases hc : k < 3
    · have dc : decide ((k : Int) < 3) = true := by simp; omega
      go_wp2_with (go_at_call 9; refine C1.out.mono ?_; rintro e w4 ⟨rfl, hr4⟩; have HR4 := Lib.hid hr4; have c8' := blk_cell hr4.bi 0; simp only [List.getElem?_toArray, List.getElem?_cons_zero] at c8'; clear hr4)
      go_roundw
      case rel => exact ⟨k + 1, by omega, by go_num, HR4.out⟩
      case measure => simp [intOf]; omega
    · have dc : decide ((k : Int) < 3) = false := by simp; omega
      have hk3 : k = 3 := by omega
      have hdk : DRel w p (rd [] 0 4) wr := by have := HR.out.desk; rw [hk3] at this; exact this
      have hst : ∃ M, RAt w p b7 b8 b11 wr.heap.size M (rd [] 0 4) (fun _ => []) (wr.alloc (.cells #[.slice none 0 0] 22)) := RAt.start (hdk.quiet ((Only.refl _ _).alloc _)) (blk_alloc HR.out.bd _) (blk_alloc HR.out.bi _) (blk_alloc HR.out.got _) (blk_new wr _) ⟨HR.out.lo.1, HR.out.lo.2.1, HR.out.lo.2.2, HR.out.desk.below.size⟩
      have hst2 : RL w p b7 b8 b11 wr.heap.size 0 (wr.alloc (.cells #[.slice none 0 0] 22)) := by
        obtain ⟨M, hM⟩ := hst
        exact ⟨M, _, hM, Nat.zero_le _, fun j _ => Begins.nil _⟩
      have HST := Lib.hid hst2
      clear hst hst2 HR C1 c7 c8 hk hc hk3 hdk
      go_wp2
      have hst := HST.out; clear HST
      generalize wr.heap.size = b16 at hst ⊢
      obtain ⟨wo, rfl⟩ : ∃ wo : World, wo = wr := ⟨_, rfl⟩
      go_loopw [18] (fun i wr => ∃ k : Nat, k ≤ 30 ∧ i = .int .i64 k ∧ RL w p b7 b8 b11 b16 k wr) (fun i _ => 30 - (intOf i).toNat)
      case atStart => exact ⟨0, by omega, rfl, hst⟩
      case round =>
        clear hst
        obtain ⟨k, hk, rfl, M, L, hr, hbl, hbeg⟩ := hrel
        have HR := Lib.hid hr; clear hr
        have HBG := Lib.hid hbeg; clear hbeg
        by_cases hc : k < n0 ∧ k < 30
        · obtain ⟨h1, h2⟩ := hc
          have dd1 : decide ((k : Int) < (n0 : Int)) = true := by simpa using h1
          have dd2 : decide ((k : Int) < 30) = true := by simp; omega
          have k0' : (0 : Int) ≤ (k : Int) := by omega
          have k1' : (k : Int) < (n0 : Int) := by omega
          obtain ⟨hl0, hcell0⟩ := AR0.out
          obtain ⟨ba, oa, rfl, hba, hcell0⟩ := hcell0 (by omega)
          obtain ⟨x, hx⟩ : ∃ x, l0[k]? = some x := ⟨_, List.getElem?_eq_getElem (by omega)⟩
          have hxb := EL0.out x (List.mem_of_getElem? hx)
          obtain ⟨A, n, c, l⟩ := x
          unfold BbAt at hxb
          simp only [] at hxb
          have hcx := hcell0 k _ hx 0 (by omega)
          simp only [bbCells, Nat.mul_one, Nat.add_zero, List.getElem?_cons_zero] at hcx
          have FC := Lib.hid (fun (W : World) (M' : RMem) (d' : Desk) (L' : Fin 4 → List UInt8) (hW : RAt w p b7 b8 b11 b16 M' d' L' W) => show W.cell? ⟨b7, 0, none⟩ = some (.pointer (some ⟨p, 0, none⟩)) ∧ W.cell? ⟨b8, 0, none⟩ = some (.int .i64 1) ∧ W.cell? ⟨ba, oa + k, none⟩ = some (.slice A n c) from
            ⟨blk_cell hW.bd 0, blk_cell hW.bi 0, (hW.below.cell (p := ⟨ba, oa + k, none⟩) hba).trans hcx⟩)
          have HX := Lib.hid hxb
          have hnc := hxb.le
          have hcm := hxb.cap
          unfold maxLen at hcm
          have HLN := Lib.hid hxb.len
          obtain ⟨c7, c8, cx⟩ := FC.out wr _ _ _ HR.out
          clear hcell0 hx hl0 hxb hcx
          by_cases hbig : 500 < n
          · have dd : decide ((500 : Int) < (n : Int)) = true := by simp; omega
            go_wp2
            go_roundw
            case rel => exact ⟨k + 1, by omega, by go_num, M, L, HR.out, by omega, HBG.out⟩
            case measure => simp [intOf]; omega
          · have dd : decide ((500 : Int) < (n : Int)) = false := by simp; omega
            have HRD := Lib.hid (HR.out.quiet (Only.drew (Only.refl _ _)))
            obtain ⟨d7, d8, dx⟩ := FC.out wr.drew _ _ _ HRD.out
            have AP := Lib.hid (rappend HRD.out (HRD.out.bts HX.out) (r_append (L 3) l 4 (by have := HLN.out; omega)))
            go_upto_region 18 with (fail)
            go_region_held3 (fun w' => w'.cell? ⟨b7, 0, none⟩ = some (.pointer (some ⟨p, 0, none⟩)) ∧ w'.cell? ⟨b8, 0, none⟩ = some (.int .i64 1) ∧ w'.cell? ⟨ba, oa + k, none⟩ = some (.slice A n c)) (go_keep)
              (first
                | (go_at_call 12; refine AP.out.mono ?_; rintro e w3 ⟨rfl, M3, hm3, hm3r⟩; have HM3 := Lib.hid hm3; clear hm3 hm3r; obtain ⟨e7, e8, ex⟩ := FC.out w3 _ _ _ HM3.out))
            clear c7 c8 cx d7 d8 dx HRD AP
            have hbox3 : w3.cell? ⟨b16, 0, none⟩ = some (rsl M3 L 3) := blk_cell HM3.out.all 0
            obtain ⟨A3, hA3⟩ : ∃ A3, A3 = (M3.r 3).A := ⟨_, rfl⟩
            obtain ⟨c3, hc3⟩ : ∃ c3, c3 = (M3.r 3).c := ⟨_, rfl⟩
            obtain ⟨nb, hnb⟩ : ∃ nb, nb = (L 3).length := ⟨_, rfl⟩
            have hsl3 := HM3.out.sl 3
            unfold rsl at hbox3
            rw [← hA3, ← hc3, ← hnb] at hbox3 hsl3
            have hnb20 : nb ≤ 15000 := by omega
            have HSL := Lib.hid hsl3; clear hsl3
            have bf3 : w3.frozen? ⟨b16, 0, none⟩ = false := blk_frozen HM3.out.all 0
            have bs3 := lt_of_heap HM3.out.all
            have HA3 := Lib.hid hA3; clear hA3
            have HC3 := Lib.hid hc3; clear hc3
            have HNB := Lib.hid hnb; clear hnb
            have HQD := Lib.hid (show Quiet w3 w3.drew from Only.drew (Only.refl _ _))
            go_upto_region 20 with (fail)
            go_region_law (refine step_append_sl _ rfl (.tmp 82) (.tmp 86) 22 rfl 5 i0 (.int .u8 0) 1 Try.underlying22 hi0 hz0 hz1 hz2 rfl A3 nb c3 (bytes (L 3)) rfl (HSL.out.only HQD.out (fun _ _ x => x)) A n c (bytes l) rfl (by rw [bytes_len, HLN.out]) ((HM3.out.quiet HQD.out).bts HX.out).toSrc (fun e => (HX.out.nil e).1) (bytes_one _) (by unfold maxLen; omega) (by omega) ?_; intro A' c' w5 hsl' hon' hrow'; have ha5 := hon'.keep (HM3.out.quiet HQD.out).all (by rw [HA3.out]; exact (HM3.out.quiet HQD.out).notRow (HM3.out.quiet HQD.out).all (by decide) 3); have bs5 := lt_of_heap ha5; have bf5 : w5.frozen? ⟨b16, 0, none⟩ = false := blk_frozen ha5 0; have bc5 : w5.cell? ⟨b16, 0, none⟩ = some (rsl M3 L 3) := blk_cell ha5 0; have PUT := Lib.hid ((HM3.out.quiet HQD.out).put 3 (w1 := w5) (ys := l) (A' := A') (n' := nb + n) (c' := c') (by rw [← HNB.out, HLN.out]) hsl' (by rw [← HA3.out]; exact hon') (fun k hk => by rw [← HA3.out]; exact hrow' k hk)); clear hsl' hon' hrow' ha5)
            all_goals
              go_upto_region 21 with (fail)
              have put6 := PUT.out
              have hb : boxOf b11 b16 3 = b16 := rfl
              rw [hb] at put6
              clear hb PUT
              have rl6 : RL w p b7 b8 b11 b16 (k + 1) (w5.setCell ⟨b16, 0, none⟩ (.slice A' (nb + n) c')) := rl_next put6 hbl (by have := HLN.out; omega) HBG.out
              generalize w5.setCell ⟨b16, 0, none⟩ (.slice A' (nb + n) c') = w6 at rl6 ⊢
              have HRL := Lib.hid rl6
              clear rl6 put6 HM3 HSL HR HBG HA3 HC3 HNB HQD hbox3 bf3 bs3 bs5 bf5 bc5 e7 e8 ex FC HX HLN hnc hcm hbl hnb20 dd
              by_cases hk1 : k < n1
              · have dk : decide ((k : Int) < (n1 : Int)) = true := by simpa using hk1
                have k2' : (k : Int) < (n1 : Int) := by omega
                obtain ⟨M6, L6, hr6, hb6, hg6⟩ := HRL.out
                obtain ⟨hl1, _, hcell1⟩ := AR1.out
                obtain ⟨b1, o1, rfl, hb1, hcell1⟩ := hcell1 (by omega)
                obtain ⟨x1, hx1⟩ : ∃ x1, l1[k]? = some x1 := ⟨_, List.getElem?_eq_getElem (by omega)⟩
                have hr6d := hr6.quiet (Only.drew (Only.refl _ _))
                have s1 : w6.drew.cell? ⟨b1, o1 + k, none⟩ = some (.int .i64 x1) := (hr6d.below.cell (p := ⟨b1, o1 + k, none⟩) hb1).trans (hcell1 k x1 hx1)
                obtain ⟨y, hy, hy3⟩ := and_mask x1 3 (by omega)
                have hy : bits .and .i64 x1 3 = (y : Int) := by simpa using hy
                obtain ⟨u, hu, hu63⟩ := and_mask (x1 / 4) 63 (by omega)
                have hu : bits .and .i64 (x1 / 4) 63 = (u : Int) := by simpa using hu
                obtain ⟨jj, hjj⟩ : ∃ jj : Fin 4, jj.1 = y % 3 := ⟨⟨y % 3, by omega⟩, rfl⟩
                have hjj3 : jj.1 < 3 := by omega
                have CL := Lib.hid (reader_at hr6d rfl (by omega) jj hjj3 (hg6 jj hjj3) u (by omega))
                have SC := Lib.hid (fun (W : World) (M' : RMem) (d' : Desk) (L' : Fin 4 → List UInt8) (hW : RAt w p b7 b8 b11 b16 M' d' L' W) => show W.cell? ⟨b1, o1 + k, none⟩ = some (.int .i64 x1) from (hW.below.cell (p := ⟨b1, o1 + k, none⟩) hb1).trans (hcell1 k x1 hx1))
                obtain ⟨r, hr⟩ : ∃ r : Nat, r = jj.1 := ⟨_, rfl⟩
                have jt : (y : Int).tmod 3 = (r : Int) := by
                  rw [hr, hjj]
                  rcases (show y = 0 ∨ y = 1 ∨ y = 2 ∨ y = 3 by omega) with e | e | e | e <;> rw [e] <;> rfl
                rw [← hr] at CL
                have HB6 := Lib.hid hb6
                have HG6 := Lib.hid hg6
                have HJ3 := Lib.hid hjj3
                clear hcell1 hx1 hl1 hr6 hr6d hr hjj hjj3 hb6 hg6 hy3 hu63
                go_region_held3 (fun w' => w'.cell? ⟨b1, o1 + k, none⟩ = some (.int .i64 x1)) (go_keep)
                  (first
                    | (go_at_call 15; refine CL.out.mono ?_; rintro e w7 ⟨rfl, M7, hm7, _⟩; have HM7 := Lib.hid hm7; clear hm7; have s2 := SC.out w7 _ _ _ HM7.out))
                go_wp2
                go_roundw
                case rel => exact ⟨k + 1, by omega, by go_num, rl_read HJ3.out HM7.out HB6.out HG6.out⟩
                case measure => simp [intOf]; omega
              · have dk : decide ((k : Int) < (n1 : Int)) = false := by simpa using hk1
                go_quiet (fail)
                go_wp2
                go_roundw
                case rel => exact ⟨k + 1, by omega, by go_num, HRL.out.quiet (by repeat (first | exact Only.refl _ _ | refine Only.drewN ?_ _ | refine Only.drew ?_))⟩
                case measure => simp [intOf]; omega
        · have hstop : n0 ≤ k ∨ (k < n0 ∧ 30 ≤ k) := by omega
          clear hc
          rcases hstop with h1 | ⟨h1, h2⟩
          all_goals
            have hbl2 : (L 3).length ≤ 15000 := by omega
            obtain ⟨wb, rfl⟩ : ∃ wb : World, wb = wr := ⟨_, rfl⟩
            go_upto_if 109 with (fail)
            go_cut [19] (fun v wx => wx = wb ∧ ∃ s : Nat, v = .int .i64 (s : Int) ∧ s = (if whole then 1 else 2))
            case first =>
              cases whole with
              | true =>
                go_wp2
                go_meet
                exact ⟨rfl, 1, rfl, rfl⟩
              | false =>
                go_wp2
                go_meet
                exact ⟨rfl, 2, rfl, rfl⟩
            case rest =>
              obtain ⟨rfl, s, rfl, hs⟩ := hcut
              have hs0 : s ≠ 0 := by rw [hs]; cases whole <;> simp
              have HS0 := Lib.hid hs0; clear hs0
              have BC := Lib.hid (fun (W : World) (M' : RMem) (d' : Desk) (L' : Fin 4 → List UInt8) (hW : RAt w p b7 b8 b11 b16 M' d' L' W) => show W.cell? ⟨b7, 0, none⟩ = some (.pointer (some ⟨p, 0, none⟩)) ∧ W.cell? ⟨b8, 0, none⟩ = some (.int .i64 1) from ⟨blk_cell hW.bd 0, blk_cell hW.bi 0⟩)
              obtain ⟨b, hb⟩ : ∃ b, b = L 3 := ⟨_, rfl⟩
              have hr0 := HR.out
              rw [← hb] at hr0 hbl2
              have HB3 := Lib.hid hb
              have EN := Lib.hid (rend hr0 (r_end b 3 whole))
              rw [← hs] at EN
              obtain ⟨c7, c8⟩ := BC.out _ _ _ _ hr0
              clear hr0 hb hs
              have cc := one_conv
              go_upto_region 28 with (first
                | (go_at_call 10; refine EN.out.mono ?_; rintro e w3 ⟨rfl, M3, hm3⟩; have HM3 := Lib.hid hm3; obtain ⟨d7, d8⟩ := BC.out w3 _ _ _ hm3; clear hm3)
                | (go_at_call 12; refine (rappend (HM3.out.quiet ((Only.refl _ _).alloc _)) (one_bts _) (r_append_shut b [120] s 4 HS0.out)).mono ?_; rintro e w4 ⟨rfl, M4, hm4, _⟩; have HM4 := Lib.hid hm4; obtain ⟨e7, e8⟩ := BC.out w4 _ _ _ hm4; clear hm4)
                | (go_at_call 16; refine (rleave HM4.out (by intro e he; simp [rd] at he; subst he; show 4 < 4611686018427387904; omega) (r_leave b s 2)).mono ?_; rintro e w5 ⟨rfl, M5, hm5, _⟩; have HM5 := Lib.hid hm5; clear hm5))
              have hst3 : RK w p b7 b8 b11 b16 b s 0 w5 := ⟨M5, L, HM5.out, HB3.out.symm, fun j hj => by rw [HB3.out]; exact HBG.out j hj⟩
              have HST3 := Lib.hid hst3
              clear hst3 HM3 HM4 HM5 EN cc c7 c8 d7 d8 e7 e8 HR HBG HB3
              go_wp2
              go_loopw [20] (fun i wx => ∃ k : Nat, k ≤ 3 ∧ i = .int .i64 k ∧ RK w p b7 b8 b11 b16 b s k wx) (fun i _ => 3 - (intOf i).toNat)
              case atStart => exact ⟨0, by omega, rfl, HST3.out⟩
              case round =>
                clear HST3
                obtain ⟨k, hk, rfl, M, L, hr, hL3, hbeg⟩ := hrel
                have HR := Lib.hid hr
                have HL3 := Lib.hid hL3
                obtain ⟨c7, c8⟩ := BC.out _ _ _ _ hr
                by_cases hc : k < 3
                · have dc : decide ((k : Int) < 3) = true := by simp; omega
                  have RR := Lib.hid (rread0 hr (rk_read b s k hc))
                  clear hr hL3
                  go_upto_region 32 with (go_at_call 14; refine RR.out.mono ?_; rintro e w4 ⟨A4, c4, rfl, hm4⟩; have HM4 := Lib.hid hm4; clear hm4)
                  clear RR HR c7 c8
                  have hmd := HM4.out.quiet (Only.drew (Only.refl _ _))
                  obtain ⟨A3, hA3⟩ : ∃ A3, A3 = (M.r 3).A := ⟨_, rfl⟩
                  obtain ⟨c3, hc3⟩ : ∃ c3, c3 = (M.r 3).c := ⟨_, rfl⟩
                  obtain ⟨nb, hnb⟩ : ∃ nb, nb = b.length := ⟨_, rfl⟩
                  obtain ⟨jj, hjj⟩ : ∃ jj : Fin 4, jj.1 = k := ⟨⟨k, by omega⟩, rfl⟩
                  have hj3 : jj.1 < 3 := by omega
                  have hjne : jj ≠ 3 := by intro q; rw [q] at hj3; exact absurd hj3 (by decide)
                  have FC := Lib.hid (fun (W : World) (M' : RMem) (d' : Desk) (L' : Fin 4 → List UInt8) (hW : RAt w p b7 b8 b11 b16 M' d' L' W) (h3 : M'.r 3 = M.r 3) (hl : L' 3 = b) => show W.cell? ⟨b7, 0, none⟩ = some (.pointer (some ⟨p, 0, none⟩)) ∧ W.cell? ⟨b8, 0, none⟩ = some (.int .i64 1) ∧ W.cell? ⟨b16, 0, none⟩ = some (.slice A3 nb c3) from
                    ⟨blk_cell hW.bd 0, blk_cell hW.bi 0, by rw [blk_cell hW.all 0, hA3, hc3, hnb, ← hl, ← h3]; rfl⟩)
                  obtain ⟨d7, d8, d16⟩ := FC.out w4.drew M _ L hmd rfl HL3.out
                  have ek : rk b s k = rd b s (3 - k) := by unfold rk; rw [if_pos hc]
                  obtain ⟨L5, hL5⟩ : ∃ L5, L5 = putL L jj (L jj ++ (b.drop (L jj).length).take (nb + 1)) := ⟨_, rfl⟩
                  have h5j : L5 jj = b := by rw [hL5, hnb]; have := (hbeg jj hj3).all; simpa [putL] using this
                  have h53 : L5 3 = b := by rw [hL5]; unfold putL; rw [if_neg (fun q => hjne q.symm)]; exact HL3.out
                  have h5b : ∀ j : Fin 4, j.1 < 3 → Begins b (L5 j) := by
                    intro j hj
                    rw [hL5]
                    unfold putL
                    split
                    · exact (hbeg jj hj3).read _
                    · exact hbeg j hj
                  have CL := Lib.hid (show Calls Try.prog 15 #[.int .i64 (k : Int), .int .i64 ((nb : Int) + 1), .pointer (some ⟨b7, 0, none⟩), .pointer (some ⟨b8, 0, none⟩), .pointer (some ⟨b11, 0, none⟩), .pointer (some ⟨b16, 0, none⟩)] w4.drew fun e w' => e = .returned (.bool true) ∧ ∃ M', RAt w p b7 b8 b11 b16 M' (rk b s k) L5 w' ∧ M'.r 3 = M.r 3 by
                    have hmd2 := hmd
                    rw [ek] at hmd2
                    have := reader_at hmd2 HL3.out.symm (by omega) jj hj3 (hbeg jj hj3) (nb + 1) (by omega)
                    rw [hjj, ← ek, ← hL5] at this
                    exact this)
                  have GC := Lib.hid (fun (W : World) (M' : RMem) (hW : RAt w p b7 b8 b11 b16 M' (rk b s k) L5 W) => show W.cell? ⟨b11, k, none⟩ = some (.slice (M'.r jj).A nb (M'.r jj).c) by
                    have := got_cell hW hj3
                    rw [hjj] at this
                    rw [this, hnb, ← h5j]
                    rfl)
                  have L53 := Lib.hid h53
                  have H5B := Lib.hid h5b
                  have iw : IntKind.i64.wrap ((nb : Int) + 1) = (nb : Int) + 1 := by rw [IntKind.wrap_i64]; omega
                  have k0' : (0 : Int) ≤ (k : Int) := by omega
                  have k3' : (k : Int) < 3 := by omega
                  clear hmd hA3 hc3 hnb hjj hj3 hjne hbeg ek hL5 h5j h53 h5b HM4
                  refine wp_region_noPanic ?_
                  refine wp_region_held_drew (S := (fun w' => w'.cell? ⟨b7, 0, none⟩ = some (.pointer (some ⟨p, 0, none⟩)) ∧ w'.cell? ⟨b8, 0, none⟩ = some (.int .i64 1) ∧ w'.cell? ⟨b16, 0, none⟩ = some (.slice A3 nb c3))) (by kernel_rfl) ?_ (fun hHeld => ?_)
                  · try dsimp only
                    go_keep
                  refine wpAnyH_take (i := 0) (v := ?_) (at_list rfl) (by kernel_rfl) (by kernel_rfl) (by kernel_rfl) (fun _ _ _ h => h) (Or.inl ⟨by rfl, ?_⟩) (by assumption) ?_
                  rotate_left
                  · intro w hSw
                    try dsimp only at hSw
                    go_simp
                    try with_reducible rfl
                  simp only [Act.put, List.setIfInBounds_toArray, List.set_cons_zero, List.set_cons_succ]
                  refine wpAnyH_take (i := 1) (v := ?_) (at_list rfl) (by kernel_rfl) (by kernel_rfl) (by kernel_rfl) (fun _ _ _ h => h) (Or.inl ⟨by rfl, ?_⟩) (by assumption) ?_
                  rotate_left
                  · intro w hSw
                    try dsimp only at hSw
                    go_simp
                    try with_reducible rfl
                  simp only [Act.put, List.setIfInBounds_toArray, List.set_cons_zero, List.set_cons_succ]
                  refine wpAnyH_take (i := 2) (v := ?_) (at_list rfl) (by kernel_rfl) (by kernel_rfl) (by kernel_rfl) (fun _ _ _ h => h) (Or.inl ⟨by rfl, ?_⟩) (by assumption) ?_
                  rotate_left
                  · intro w hSw
                    try dsimp only at hSw
                    go_simp
                    try with_reducible rfl
                  simp only [Act.put, List.setIfInBounds_toArray, List.set_cons_zero, List.set_cons_succ]
                  refine wpAnyH_take (i := 3) (v := ?_) (at_list rfl) (by kernel_rfl) (by kernel_rfl) (by kernel_rfl) (fun _ _ _ h => h) (Or.inl ⟨by rfl, ?_⟩) (by assumption) ?_
                  rotate_left
                  · intro w hSw
                    try dsimp only at hSw
                    go_simp
                    try with_reducible rfl
                  simp only [Act.put, List.setIfInBounds_toArray, List.set_cons_zero, List.set_cons_succ]
                  refine wpAnyH_take (i := 4) (v := ?_) (at_list rfl) (by kernel_rfl) (by kernel_rfl) (by kernel_rfl) (fun _ _ _ h => h) (Or.inl ⟨by rfl, ?_⟩) (by assumption) ?_
                  rotate_left
                  · intro w hSw
                    try dsimp only at hSw
                    go_simp
                    try with_reducible rfl
                  simp only [Act.put, List.setIfInBounds_toArray, List.set_cons_zero, List.set_cons_succ]
                  refine wpAnyH_ready (rs := [5]) (by kernel_rfl) (by simp) ?_
                  refine AllReadyH.cons (at_list rfl) (fun KK hKK => ?_) AllReadyH.nil
                  go_simp
                  try rw [iw]
                  go_at_call 15
                  refine CL.out.mono ?_
                  rintro e w5 ⟨rfl, M5, hm5, hm53⟩
                  have HM5 := Lib.hid hm5
                  have H53 := Lib.hid hm53
                  obtain ⟨x7, x8, x16⟩ := FC.out w5 _ _ _ hm5 hm53 L53.out
                  have t0 := GC.out w5 _ hm5
                  clear hm5 hm53
                  try go_wp2_with fail
                  refine hKK.out _ _ ?_ (fun hHeld2 => ?_)
                  · try dsimp only
                    go_keep
                  clear hKK KK hHeld
                  rename _ => hHeld
                  try simp only [Act.put, List.setIfInBounds_toArray, List.set_cons_zero, List.set_cons_succ]
                  refine wpAnyH_take (i := 6) (v := ?_) (at_list rfl) (by kernel_rfl) (by kernel_rfl) (by kernel_rfl) (fun _ _ _ h => h) (Or.inl ⟨by rfl, ?_⟩) (by assumption) ?_
                  rotate_left
                  · intro w hSw
                    try dsimp only at hSw
                    go_simp
                    try with_reducible rfl
                  simp only [Act.put, List.setIfInBounds_toArray, List.set_cons_zero, List.set_cons_succ]
                  refine wpAnyH_take (i := 7) (v := ?_) (at_list rfl) (by kernel_rfl) (by kernel_rfl) (by kernel_rfl) (fun _ _ _ h => h) (Or.inl ⟨by rfl, ?_⟩) (by assumption) ?_
                  rotate_left
                  · intro w hSw
                    try dsimp only at hSw
                    go_simp
                    try with_reducible rfl
                  simp only [Act.put, List.setIfInBounds_toArray, List.set_cons_zero, List.set_cons_succ]
                  refine wpAnyH_take (i := 8) (v := ?_) (at_list rfl) (by kernel_rfl) (by kernel_rfl) (by kernel_rfl) (fun _ _ _ h => h) (Or.inl ⟨by rfl, ?_⟩) (by assumption) ?_
                  rotate_left
                  · intro w hSw
                    try dsimp only at hSw
                    go_simp
                    try with_reducible rfl
                  simp only [Act.put, List.setIfInBounds_toArray, List.set_cons_zero, List.set_cons_succ]
                  refine wpAnyH_take (i := 9) (v := ?_) (at_list rfl) (by kernel_rfl) (by kernel_rfl) (by kernel_rfl) (fun _ _ _ h => h) (Or.inl ⟨by rfl, ?_⟩) (by assumption) ?_
                  rotate_left
                  · intro w hSw
                    try dsimp only at hSw
                    go_simp
                    try with_reducible rfl
                  simp only [Act.put, List.setIfInBounds_toArray, List.set_cons_zero, List.set_cons_succ]
                  refine wpAnyH_take (i := 12) (v := ?_) (at_list rfl) (by kernel_rfl) (by kernel_rfl) (by kernel_rfl) (fun _ _ _ h => h) (Or.inl ⟨by rfl, ?_⟩) (by assumption) ?_
                  rotate_left
                  · intro w hSw
                    try dsimp only at hSw
                    go_simp
                    try with_reducible rfl
                  simp only [Act.put, List.setIfInBounds_toArray, List.set_cons_zero, List.set_cons_succ]
                  refine wpAnyH_take (i := 13) (v := ?_) (at_list rfl) (by kernel_rfl) (by kernel_rfl) (by kernel_rfl) (fun _ _ _ h => h) (Or.inl ⟨by rfl, ?_⟩) (by assumption) ?_
                  rotate_left
                  · intro w hSw
                    try dsimp only at hSw
                    go_simp
                    try with_reducible rfl
                  simp only [Act.put, List.setIfInBounds_toArray, List.set_cons_zero, List.set_cons_succ]
                  refine wpAnyH_ready (rs := [10]) (by kernel_rfl) (by simp) ?_
                  refine AllReadyH.cons (at_list rfl) (fun KK hKK => ?_) AllReadyH.nil
                  go_simp
                  refine hKK.out _ _ ?_ (fun hHeld2 => ?_)
                  · try dsimp only
                    go_keep
                  clear hKK KK hHeld
                  rename _ => hHeld
                  try simp only [Act.put, List.setIfInBounds_toArray, List.set_cons_zero, List.set_cons_succ]
                  refine wpAnyH_take (i := 11) (v := ?_) (at_list rfl) (by kernel_rfl) (by kernel_rfl) (by kernel_rfl) (fun _ _ _ h => h) (Or.inl ⟨by rfl, ?_⟩) (by assumption) ?_
                  rotate_left
                  · intro w hSw
                    try dsimp only at hSw
                    go_simp
                    try with_reducible rfl
                  simp only [Act.put, List.setIfInBounds_toArray, List.set_cons_zero, List.set_cons_succ]
                  refine wpAnyH_take (i := 14) (v := ?_) (at_list rfl) (by kernel_rfl) (by kernel_rfl) (by kernel_rfl) (fun _ _ _ h => h) (Or.inl ⟨by rfl, ?_⟩) (by assumption) ?_
                  rotate_left
                  · intro w hSw
                    try dsimp only at hSw
                    go_simp
                    try with_reducible rfl
                  simp only [Act.put, List.setIfInBounds_toArray, List.set_cons_zero, List.set_cons_succ]
                  refine wpAnyH_take (i := 15) (v := ?_) (at_list rfl) (by kernel_rfl) (by kernel_rfl) (by kernel_rfl) (fun _ _ _ h => h) (Or.inl ⟨by rfl, ?_⟩) (by assumption) ?_
                  rotate_left
                  · intro w hSw
                    try dsimp only at hSw
                    go_simp
                    try with_reducible rfl
                  simp only [Act.put, List.setIfInBounds_toArray, List.set_cons_zero, List.set_cons_succ]
                  refine wpAnyH_take (i := 16) (v := ?_) (at_list rfl) (by kernel_rfl) (by kernel_rfl) (by kernel_rfl) (fun _ _ _ h => h) (Or.inl ⟨by rfl, ?_⟩) (by assumption) ?_
                  rotate_left
                  · intro w hSw
                    try dsimp only at hSw
                    go_simp
                    try with_reducible rfl
                  simp only [Act.put, List.setIfInBounds_toArray, List.set_cons_zero, List.set_cons_succ]
                  refine wpAnyH_take (i := 17) (v := ?_) (at_list rfl) (by kernel_rfl) (by kernel_rfl) (by kernel_rfl) (fun _ _ _ h => h) (Or.inl ⟨by rfl, ?_⟩) (by assumption) ?_
                  rotate_left
                  · intro w hSw
                    try dsimp only at hSw
                    go_simp
                    try with_reducible rfl
                  simp only [Act.put, List.setIfInBounds_toArray, List.set_cons_zero, List.set_cons_succ]
                  refine wpAnyH_take (i := 18) (v := ?_) (at_list rfl) (by kernel_rfl) (by kernel_rfl) (by kernel_rfl) (fun _ _ _ h => h) (Or.inl ⟨by rfl, ?_⟩) (by assumption) ?_
                  rotate_left
                  · intro w hSw
                    try dsimp only at hSw
                    go_simp
                    try with_reducible rfl
                  simp only [Act.put, List.setIfInBounds_toArray, List.set_cons_zero, List.set_cons_succ]
                  refine wpAnyH_take (i := 19) (v := ?_) (at_list rfl) (by kernel_rfl) (by kernel_rfl) (by kernel_rfl) (fun _ _ _ h => h) (Or.inl ⟨by rfl, ?_⟩) (by assumption) ?_
                  rotate_left
                  · intro w hSw
                    try dsimp only at hSw
                    go_simp
                    try with_reducible rfl
                  simp only [Act.put, List.setIfInBounds_toArray, List.set_cons_zero, List.set_cons_succ]
                  refine wpAnyH_take (i := 20) (v := ?_) (at_list rfl) (by kernel_rfl) (by kernel_rfl) (by kernel_rfl) (fun _ _ _ h => h) (Or.inl ⟨by rfl, ?_⟩) (by assumption) ?_
                  rotate_left
                  · intro w hSw
                    try dsimp only at hSw
                    go_simp
                    try with_reducible rfl
                  simp only [Act.put, List.setIfInBounds_toArray, List.set_cons_zero, List.set_cons_succ]
                  refine wpAnyH_take (i := 21) (v := ?_) (at_list rfl) (by kernel_rfl) (by kernel_rfl) (by kernel_rfl) (fun _ _ _ h => h) (Or.inl ⟨by rfl, ?_⟩) (by assumption) ?_
                  rotate_left
                  · intro w hSw
                    try dsimp only at hSw
                    go_simp
                    try with_reducible rfl
                  simp only [Act.put, List.setIfInBounds_toArray, List.set_cons_zero, List.set_cons_succ]
                  refine wpAnyH_take (i := 22) (v := ?_) (at_list rfl) (by kernel_rfl) (by kernel_rfl) (by kernel_rfl) (fun _ _ _ h => h) (Or.inl ⟨by rfl, ?_⟩) (by assumption) ?_
                  rotate_left
                  · intro w hSw
                    try dsimp only at hSw
                    go_simp
                    try with_reducible rfl
                  simp only [Act.put, List.setIfInBounds_toArray, List.set_cons_zero, List.set_cons_succ]
                  refine wpAnyH_take (i := 23) (v := ?_) (at_list rfl) (by kernel_rfl) (by kernel_rfl) (by kernel_rfl) (fun _ _ _ h => h) (Or.inl ⟨by rfl, ?_⟩) (by assumption) ?_
                  rotate_left
                  · intro w hSw
                    try dsimp only at hSw
                    go_simp
                    try with_reducible rfl
                  simp only [Act.put, List.setIfInBounds_toArray, List.set_cons_zero, List.set_cons_succ]
                  refine wpAnyH_ready (rs := [24]) (by kernel_rfl) (by simp) ?_
                  refine AllReadyH.cons (at_list rfl) (fun KK hKK => ?_) AllReadyH.nil
                  go_simp
                  go_at_call 16
                  refine (rleave HM5.out (rk_part b s k) (rk_leave b s k HS0.out hc)).mono ?_
                  rintro e w6 ⟨rfl, M6, hm6, hm6r⟩
                  have HM6 := Lib.hid hm6
                  obtain ⟨z7, z8, z16⟩ := FC.out w6 _ _ _ hm6 (by rw [hm6r]; exact H53.out) L53.out
                  clear hm6 hm6r
                  try go_wp2_with fail
                  refine hKK.out _ _ ?_ (fun hHeld2 => ?_)
                  · try dsimp only
                    go_keep
                  clear hKK KK hHeld
                  rename _ => hHeld
                  try simp only [Act.put, List.setIfInBounds_toArray, List.set_cons_zero, List.set_cons_succ]
                  refine wpAnyH_take (i := 25) (v := ?_) (at_list rfl) (by kernel_rfl) (by kernel_rfl) (by kernel_rfl) (fun _ _ _ h => h) (Or.inl ⟨by rfl, ?_⟩) (by assumption) ?_
                  rotate_left
                  · intro w hSw
                    try dsimp only at hSw
                    go_simp
                    try with_reducible rfl
                  simp only [Act.put, List.setIfInBounds_toArray, List.set_cons_zero, List.set_cons_succ]
                  refine wpAnyH_take (i := 26) (v := ?_) (at_list rfl) (by kernel_rfl) (by kernel_rfl) (by kernel_rfl) (fun _ _ _ h => h) (Or.inl ⟨by rfl, ?_⟩) (by assumption) ?_
                  rotate_left
                  · intro w hSw
                    try dsimp only at hSw
                    go_simp
                    try with_reducible rfl
                  simp only [Act.put, List.setIfInBounds_toArray, List.set_cons_zero, List.set_cons_succ]
                  refine wpAnyH_done (by kernel_rfl) ?_ _
                  refine NoPanic.normal ?_
                  go_wp2
                  go_roundw
                  case rel => exact ⟨k + 1, by omega, by go_num, M6, L5, HM6.out, L53.out, H5B.out⟩
                  case measure => simp [intOf]; omega
                · have dc : decide ((k : Int) < 3) = false := by simp; omega
                  have eg : rk b s k = rgone := by unfold rk; rw [if_neg hc]
                  rw [eg] at hr
                  have RR := Lib.hid (rread0 hr r_read_none)
                  clear hr hL3 hbeg eg
                  go_wp2_with (first
                    | (go_at_call 14; refine RR.out.mono ?_; rintro e w4 ⟨A4, c4, rfl, hm4⟩; have HM4 := Lib.hid hm4; obtain ⟨d7, d8⟩ := BC.out _ _ _ _ hm4; clear hm4)
                    | (go_at_call 11; refine (rrunning HM4.out r_running).mono ?_; rintro e w6 ⟨rfl, hm6⟩; have HM6 := Lib.hid hm6; clear hm6))
                  go_ret
                  exact ⟨rfl, HM6.out.below⟩
theorem readers_law (w : World) (A0 : Option Addr) (n0 c0 : Nat) (l0 : List (Option Addr × Nat × Nat × List UInt8)) (hnc0 : n0 ≤ c0) (hcm0 : c0 ≤ maxLen) (_ : A0 = none → n0 = 0 ∧ c0 = 0) (arg0 : StructsArg bbCells 1 w A0 n0 l0) (el0 : ∀ x ∈ l0, BbAt w x)
    (A1 : Option Addr) (n1 c1 : Nat) (l1 : List Int) (hnc1 : n1 ≤ c1) (hcm1 : c1 ≤ maxLen) (_ : A1 = none → n1 = 0 ∧ c1 = 0) (arg1 : IntsArg .i64 w A1 n1 l1) (whole : Bool) :
    Calls Try.prog 5 #[.slice A0 n0 c0, .slice A1 n1 c1, .bool whole] w fun e w' => e = .returned (.bool true) ∧ Below w.heap.size w w' :=
  readers_walk w A0 n0 c0 l0 hcm0 hnc0 arg0 el0 A1 n1 c1 l1 hnc1 hcm1 arg1 whole
end Go.Proofs.Ytffockkdiimneaa
