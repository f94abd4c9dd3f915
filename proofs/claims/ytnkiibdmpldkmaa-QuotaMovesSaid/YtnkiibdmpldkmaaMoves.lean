/-
  THE STATEMENT QuotaMoves, its walk: what is charged is, in the end, refunded or unpinned, and not more. No conditions.
-/
import Derived.Test.YtnkiibdmpldkmaaNew
import Derived.Test.YtnkiibdmpldkmaaCalls
namespace Go.Proofs.Ytnkiibdmpldkmaa
open Go.RowKit

theorem act_single {kind : Int} {s : Acct} {n : Int} (hn : 0 ≤ n) : act kind [s] 0 n = ((one kind s n).1, [(one kind s n).2]) := by
  unfold act
  rw [if_neg (by omega)]
  rfl
theorem look_single (s : Acct) : look [s] 0 = s := rfl
theorem reached_single {p m : Nat} {bs : List Nat} {s : Acct} {w : World} (h : BookAt w p m bs [s]) :
    Calls Try.prog 12 #[.pointer (some ⟨p, 0, none⟩), .int .i64 0] w fun e w' => e = .returned (.int .i64 s.inn) ∧ BookAt w' p m bs [s] ∧ Quiet w w' :=
  (reached_of (of_any 0 h)).mono fun _ _ ⟨he, ho⟩ => ⟨he, h.quiet ho, ho⟩
theorem pinned_single {p m : Nat} {bs : List Nat} {s : Acct} {w : World} (h : BookAt w p m bs [s]) :
    Calls Try.prog 13 #[.pointer (some ⟨p, 0, none⟩), .int .i64 0] w fun e w' => e = .returned (.int .i64 s.pin) ∧ BookAt w' p m bs [s] ∧ Quiet w w' :=
  (pinned_of (of_any 0 h)).mono fun _ _ ⟨he, ho⟩ => ⟨he, h.quiet ho, ho⟩
theorem limit_single {p m : Nat} {bs : List Nat} {s : Acct} {w : World} (h : BookAt w p m bs [s]) :
    Calls Try.prog 14 #[.pointer (some ⟨p, 0, none⟩), .int .i64 0] w fun e w' => e = .returned (.int .i64 s.lim) ∧ BookAt w' p m bs [s] ∧ Quiet w w' :=
  (limit_of (of_any 0 h)).mono fun _ _ ⟨he, ho⟩ => ⟨he, h.quiet ho, ho⟩
theorem fits_single {p m : Nat} {bs : List Nat} {s : Acct} {w : World} {n : Int} (h : BookAt w p m bs [s]) (hn : s.lim - s.inn < n) :
    Calls Try.prog 11 #[.pointer (some ⟨p, 0, none⟩), .int .i64 0, .int .i64 n] w fun e w' => e = .returned (.bool false) ∧ Quiet w w' :=
  (fits_in 0 n h (s := s) (by omega) rfl).mono fun _ _ ⟨he, ho⟩ => ⟨by rw [he]; exact ret_bool (by simp [fitsB]; omega), ho⟩
/-- One call of a book of one account. -/
def CallPost (w : World) (p m : Nat) (bs : List Nat) (c : Int) (s' : Acct) (e : Ending) (w' : World) : Prop := e = .returned (.int .i64 c) ∧ BookAt w' p m bs [s'] ∧ Only (· ∈ bs) w w'
theorem charge_single {p m : Nat} {bs : List Nat} {s : Acct} {w : World} {n : Int} (h : BookAt w p m bs [s]) (hn : 0 ≤ n) {c : Int} {s' : Acct} (e : one 0 s n = (c, s')) :
    Calls Try.prog 7 #[.pointer (some ⟨p, 0, none⟩), .int .i64 0, .int .i64 n] w (CallPost w p m bs c s') := by
  have := charge_any 0 n h
  rw [act_single hn, e] at this
  exact this
theorem part_single {p m : Nat} {bs : List Nat} {s : Acct} {w : World} {n : Int} (h : BookAt w p m bs [s]) (hn : 0 ≤ n) {c : Int} {s' : Acct} (e : one 1 s n = (c, s')) :
    Calls Try.prog 8 #[.pointer (some ⟨p, 0, none⟩), .int .i64 0, .int .i64 n] w (CallPost w p m bs c s') := by
  have := part_any 0 n h
  rw [act_single hn, e] at this
  exact this
theorem refund_single {p m : Nat} {bs : List Nat} {s : Acct} {w : World} {n : Int} (h : BookAt w p m bs [s]) (hn : 0 ≤ n) {c : Int} {s' : Acct} (e : one 2 s n = (c, s')) :
    Calls Try.prog 9 #[.pointer (some ⟨p, 0, none⟩), .int .i64 0, .int .i64 n] w (CallPost w p m bs c s') := by
  have := refund_any 0 n h
  rw [act_single hn, e] at this
  exact this
theorem unpin_single {p m : Nat} {bs : List Nat} {s : Acct} {w : World} {n : Int} (h : BookAt w p m bs [s]) (hn : 0 ≤ n) {c : Int} {s' : Acct} (e : one 3 s n = (c, s')) :
    Calls Try.prog 10 #[.pointer (some ⟨p, 0, none⟩), .int .i64 0, .int .i64 n] w (CallPost w p m bs c s') := by
  have := unpin_any 0 n h
  rw [act_single hn, e] at this
  exact this
theorem new_one (a : Nat) (w : World) (hc : w.heap[a]? = some (.cells #[.int .i64 1048576] 3 (0, 0))) :
    Calls Try.prog 15 #[.slice (some ⟨a, 0, none⟩) 1 1] w fun e w' => ∃ p m bs, e = .returned (.tuple #[.pointer (some ⟨p, 0, none⟩), .int .i64 0]) ∧ BookAt w' p m bs [⟨1048576, 0, 0⟩] ∧ w.heap.size ≤ p ∧ w.heap.size ≤ m ∧ (∀ a ∈ bs, w.heap.size ≤ a) ∧ Quiet w w' := by
  refine (new_any (some ⟨a, 0, none⟩) 1 1 [1048576] w ⟨rfl, by decide, fun _ => ⟨a, 0, rfl, lt_of_heap hc, ?_⟩⟩).mono ?_
  · intro i x hi
    match i, hi with
    | 0, hi => simp at hi; subst hi; exact blk_cell hc 0
  · rintro e w' ⟨ho, h⟩
    rw [if_pos (by decide)] at h
    obtain ⟨p, m, bs, h1, h2, h3, h4, h5⟩ := h
    exact ⟨p, m, bs, h1, h2, h3, h4, h5, ho⟩

def MRel (w : World) (p m : Nat) (bs : List Nat) (vin vpin vi : Value) (wr : World) : Prop :=
  ∃ (k : Nat) (i q : Int), vi = .int .i64 k ∧ vin = .int .i64 i ∧ vpin = .int .i64 q ∧ 0 ≤ i ∧ 0 ≤ q ∧ k ≤ 100 ∧ i + q ≤ 255 * k ∧ BookAt wr p m bs [⟨1048576, i, q⟩] ∧ Below w.heap.size w wr
theorem ret_int {a b : Int} (h : a = b) : Ending.returned (.int .i64 a) = .returned (.int .i64 b) := by rw [h]
theorem mrel_step {w wr w1 w2 w3 : World} {p m : Nat} {bs : List Nat} {k : Nat} {i q : Int} (hb : Below w.heap.size w wr) (hbs : ∀ a ∈ bs, w.heap.size ≤ a) (h1 : Only (· ∈ bs) wr w1) (h2 : Quiet w1 w2) (h3 : Quiet w2 w3)
    (h4 : BookAt w3 p m bs [⟨1048576, i, q⟩]) (hi : 0 ≤ i) (hq : 0 ≤ q) (hk : k < 100) (hs : i + q ≤ 255 * ((k : Int) + 1)) : MRel w p m bs (.int .i64 i) (.int .i64 q) (.int .i64 ((k : Int) + 1)) w3 := by
  refine ⟨k + 1, i, q, by simp, rfl, rfl, hi, hq, by omega, by push_cast; omega, h4, ?_⟩
  have e1 : Below w.heap.size wr w1 := h1.below hb.size hbs
  have e2 : Below w.heap.size w1 w2 := h2.below (Nat.le_trans hb.size e1.size) (fun _ x => x.elim)
  have e3 : Below w.heap.size w2 w3 := h3.below (Nat.le_trans (Nat.le_trans hb.size e1.size) e2.size) (fun _ x => x.elim)
  exact ((hb.trans e1).trans e2).trans e3

set_option maxRecDepth 100000 in
set_option maxHeartbeats 4000000 in
theorem moves_law (w : World) (A0 : Option Addr) (n0 c0 : Nat) (l0 : List Int) (_ : n0 ≤ c0) (hcm0 : c0 ≤ maxLen) (_ : A0 = none → n0 = 0 ∧ c0 = 0) (arg0 : IntsArg .i64 w A0 n0 l0)
    (A1 : Option Addr) (n1 c1 : Nat) (l1 : List Int) (_ : n1 ≤ c1) (hcm1 : c1 ≤ maxLen) (_ : A1 = none → n1 = 0 ∧ c1 = 0) (arg1 : IntsArg .i64 w A1 n1 l1) :
    Calls Try.prog 6 #[.slice A0 n0 c0, .slice A1 n1 c1] w fun e w' => e = .returned (.bool true) ∧ Below w.heap.size w w' := by
  unfold maxLen at hcm0 hcm1
  have AR0 := Lib.hid arg0; clear arg0
  have AR1 := Lib.hid arg1; clear arg1
  have HN := Lib.hid (new_one w.heap.size (w.alloc (.cells #[.int .i64 1048576] 3)) (blk_new w _))
  go_enter Try.func6, Try.ntmps6
  go_wp2_with (go_at_call 15; refine HN.out.mono ?_; rintro e w1 ⟨p, m, bs, rfl, hbook, hp, hm, hbs, hq⟩; have HB := Lib.hid hbook; clear hbook; simp only [World.size_alloc] at hp hm hbs; have hbelow : Below w.heap.size w w1 := ((Below.refl _ w).alloc (Nat.le_refl _) _).trans (hq.below (by simp) (fun _ x => x.elim)); have HBS := Lib.hid (show ∀ a ∈ bs, w.heap.size ≤ a from fun a ha => by have := hbs a ha; omega); clear hbs)
  go_loopw [7, 8, 9] (fun vin vpin vi wr => MRel w p m bs vin vpin vi wr) (fun _ _ i _ => 100 - (intOf i).toNat)
  case atStart => exact ⟨0, 0, 0, rfl, rfl, rfl, by omega, by omega, by omega, by omega, HB.out, hbelow⟩
  case round =>
    obtain ⟨k, i, q, rfl, rfl, rfl, hi, hq0, hk, hiq, hbook, hbr⟩ := hrel
    have HB2 := Lib.hid hbook; clear hbook
    by_cases hc : k < n0 ∧ k < n1 ∧ k < 100
    · obtain ⟨h1, h2, h3⟩ := hc
      obtain ⟨hl0, _, hcell0⟩ := AR0.out
      obtain ⟨hl1, _, hcell1⟩ := AR1.out
      obtain ⟨b0, o0, rfl, hb0, hcell0⟩ := hcell0 (by omega)
      obtain ⟨b1, o1, rfl, hb1, hcell1⟩ := hcell1 (by omega)
      obtain ⟨x0, hx0⟩ : ∃ x, l0[k]? = some x := ⟨_, List.getElem?_eq_getElem (by omega)⟩
      obtain ⟨x1, hx1⟩ : ∃ x, l1[k]? = some x := ⟨_, List.getElem?_eq_getElem (by omega)⟩
      have hc0 : wr.cell? ⟨b0, o0 + k, none⟩ = some (.int .i64 x0) := (hbr.cell (p := ⟨b0, o0 + k, none⟩) hb0).trans (hcell0 k x0 hx0)
      have hc1 : wr.cell? ⟨b1, o1 + k, none⟩ = some (.int .i64 x1) := (hbr.cell (p := ⟨b1, o1 + k, none⟩) hb1).trans (hcell1 k x1 hx1)
      obtain ⟨y0, hy, hy2⟩ : ∃ y : Nat, bits .and .i64 x0 255 = (y : Int) ∧ y ≤ 255 := and_mask x0 255 (by omega)
      obtain ⟨v, hv, hv2⟩ : ∃ v : Nat, bits .and .i64 x1 3 = (v : Int) ∧ v ≤ 3 := and_mask x1 3 (by omega)
      obtain ⟨y, hyy, hyl, hyh⟩ : ∃ y : Int, bits .and .i64 x0 255 = y ∧ 0 ≤ y ∧ y ≤ 255 := ⟨_, hy, by omega, by omega⟩
      clear hl0 hl1 hcell0 hcell1 hx0 hx1 hy hy2 y0
      rcases (show v = 0 ∨ v = 1 ∨ v = 2 ∨ v = 3 by omega) with rfl | rfl | rfl | rfl
      · have HE := Lib.hid (charge_single HB2.out hyl (c := 0) (s' := ⟨1048576, i + y, q⟩) (by simp [one]; omega))
        go_wp2_with (first | (go_at_call 7; refine HE.out.mono ?_; rintro e w2 ⟨rfl, hb2, ho2⟩; have HB3 := Lib.hid hb2; clear hb2) | (go_at_call 12; refine (reached_single HB3.out).mono ?_; rintro e w3 ⟨rfl, hb3, ho3⟩; have HB4 := Lib.hid hb3; clear hb3) | (go_at_call 13; refine (pinned_single HB4.out).mono ?_; rintro e w4 ⟨rfl, hb4, ho4⟩; have HB5 := Lib.hid hb4; clear hb4))
        go_roundw
        case rel => exact mrel_step hbr HBS.out ho2 ho3 ho4 HB5.out (by omega) (by omega) h3 (by omega)
        case measure => simp [intOf]; omega
      · by_cases hd : i < y
        · have HE := Lib.hid (part_single HB2.out hyl (c := 12) (s' := ⟨1048576, i, q⟩) (by first | (simp [one, hd]; done) | (simp [one, hd]; omega)))
          go_wp2_with (first | (go_at_call 8; refine HE.out.mono ?_; rintro e w2 ⟨rfl, hb2, ho2⟩; have HB3 := Lib.hid hb2; clear hb2) | (go_at_call 12; refine (reached_single HB3.out).mono ?_; rintro e w3 ⟨rfl, hb3, ho3⟩; have HB4 := Lib.hid hb3; clear hb3) | (go_at_call 13; refine (pinned_single HB4.out).mono ?_; rintro e w4 ⟨rfl, hb4, ho4⟩; have HB5 := Lib.hid hb4; clear hb4))
          go_roundw
          case rel => exact mrel_step hbr HBS.out ho2 ho3 ho4 HB5.out (by omega) (by omega) h3 (by omega)
          case measure => simp [intOf]; omega
        · have HE := Lib.hid (part_single HB2.out hyl (c := 0) (s' := ⟨1048576, i - y, q + y⟩) (by first | (simp [one, hd]; done) | (simp [one, hd]; omega)))
          go_wp2_with (first | (go_at_call 8; refine HE.out.mono ?_; rintro e w2 ⟨rfl, hb2, ho2⟩; have HB3 := Lib.hid hb2; clear hb2) | (go_at_call 12; refine (reached_single HB3.out).mono ?_; rintro e w3 ⟨rfl, hb3, ho3⟩; have HB4 := Lib.hid hb3; clear hb3) | (go_at_call 13; refine (pinned_single HB4.out).mono ?_; rintro e w4 ⟨rfl, hb4, ho4⟩; have HB5 := Lib.hid hb4; clear hb4))
          go_roundw
          case rel => exact mrel_step hbr HBS.out ho2 ho3 ho4 HB5.out (by omega) (by omega) h3 (by omega)
          case measure => simp [intOf]; omega
      · by_cases hd : i < y
        · have HE := Lib.hid (refund_single HB2.out hyl (c := 12) (s' := ⟨1048576, i, q⟩) (by first | (simp [one, hd]; done) | (simp [one, hd]; omega)))
          go_wp2_with (first | (go_at_call 9; refine HE.out.mono ?_; rintro e w2 ⟨rfl, hb2, ho2⟩; have HB3 := Lib.hid hb2; clear hb2) | (go_at_call 12; refine (reached_single HB3.out).mono ?_; rintro e w3 ⟨rfl, hb3, ho3⟩; have HB4 := Lib.hid hb3; clear hb3) | (go_at_call 13; refine (pinned_single HB4.out).mono ?_; rintro e w4 ⟨rfl, hb4, ho4⟩; have HB5 := Lib.hid hb4; clear hb4))
          go_roundw
          case rel => exact mrel_step hbr HBS.out ho2 ho3 ho4 HB5.out (by omega) (by omega) h3 (by omega)
          case measure => simp [intOf]; omega
        · have HE := Lib.hid (refund_single HB2.out hyl (c := 0) (s' := ⟨1048576, i - y, q⟩) (by first | (simp [one, hd]; done) | (simp [one, hd]; omega)))
          go_wp2_with (first | (go_at_call 9; refine HE.out.mono ?_; rintro e w2 ⟨rfl, hb2, ho2⟩; have HB3 := Lib.hid hb2; clear hb2) | (go_at_call 12; refine (reached_single HB3.out).mono ?_; rintro e w3 ⟨rfl, hb3, ho3⟩; have HB4 := Lib.hid hb3; clear hb3) | (go_at_call 13; refine (pinned_single HB4.out).mono ?_; rintro e w4 ⟨rfl, hb4, ho4⟩; have HB5 := Lib.hid hb4; clear hb4))
          go_roundw
          case rel => exact mrel_step hbr HBS.out ho2 ho3 ho4 HB5.out (by omega) (by omega) h3 (by omega)
          case measure => simp [intOf]; omega
      · by_cases hd : q < y
        · have HE := Lib.hid (unpin_single HB2.out hyl (c := 12) (s' := ⟨1048576, i, q⟩) (by first | (simp [one, hd]; done) | (simp [one, hd]; omega)))
          go_wp2_with (first | (go_at_call 10; refine HE.out.mono ?_; rintro e w2 ⟨rfl, hb2, ho2⟩; have HB3 := Lib.hid hb2; clear hb2) | (go_at_call 12; refine (reached_single HB3.out).mono ?_; rintro e w3 ⟨rfl, hb3, ho3⟩; have HB4 := Lib.hid hb3; clear hb3) | (go_at_call 13; refine (pinned_single HB4.out).mono ?_; rintro e w4 ⟨rfl, hb4, ho4⟩; have HB5 := Lib.hid hb4; clear hb4))
          go_roundw
          case rel => exact mrel_step hbr HBS.out ho2 ho3 ho4 HB5.out (by omega) (by omega) h3 (by omega)
          case measure => simp [intOf]; omega
        · have HE := Lib.hid (unpin_single HB2.out hyl (c := 0) (s' := ⟨1048576, i, q - y⟩) (by first | (simp [one, hd]; done) | (simp [one, hd]; omega)))
          go_wp2_with (first | (go_at_call 10; refine HE.out.mono ?_; rintro e w2 ⟨rfl, hb2, ho2⟩; have HB3 := Lib.hid hb2; clear hb2) | (go_at_call 12; refine (reached_single HB3.out).mono ?_; rintro e w3 ⟨rfl, hb3, ho3⟩; have HB4 := Lib.hid hb3; clear hb3) | (go_at_call 13; refine (pinned_single HB4.out).mono ?_; rintro e w4 ⟨rfl, hb4, ho4⟩; have HB5 := Lib.hid hb4; clear hb4))
          go_roundw
          case rel => exact mrel_step hbr HBS.out ho2 ho3 ho4 HB5.out (by omega) (by omega) h3 (by omega)
          case measure => simp [intOf]; omega
    · have hstop : (n0 ≤ k) ∨ (k < n0 ∧ n1 ≤ k) ∨ (k < n0 ∧ k < n1 ∧ 100 ≤ k) := by omega
      clear hc
      rcases hstop with h1 | ⟨h1, h2⟩ | ⟨h1, h2, h3⟩
      all_goals
        go_wp2_with (first | (go_at_call 14; refine (limit_single HB2.out).mono ?_; rintro e w3 ⟨rfl, hb3, ho3⟩; have HB4 := Lib.hid hb3; clear hb3) | (go_at_call 11; refine (fits_single HB4.out (by simp only []; omega)).mono ?_; rintro e w4 ⟨rfl, ho4⟩))
        go_ret
        exact ⟨rfl, (hbr.trans (ho3.below hbr.size (fun _ x => x.elim))).trans (ho4.below (Nat.le_trans hbr.size ho3.size) (fun _ x => x.elim))⟩
end Go.Proofs.Ytnkiibdmpldkmaa
