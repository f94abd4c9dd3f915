/-
  The walk of SpanOrder. No conditions.
-/
import Derived.Test.YthhaaakabpnbnaaKeeps
import Derived.Test.YthhaaakabpnbnaaOrdFacts
namespace Go.Proofs.Ythhaaakabpnbnaa
open Go.RowKit
set_option linter.unusedVariables false
set_option linter.unusedSimpArgs false

theorem sz14 (W : World) : Calls Try.prog 13 #[.slice (some ⟨W.heap.size, 0, none⟩) 1 1] (W.alloc (.cells #[.int .i64 1, .int .i64 4] 28)) fun e w' => e = .returned (.int .i64 3) ∧ Quiet W w' := by
  have := size_at (one_new W (1, 4))
  rw [size14] at this
  refine this.mono ?_
  rintro e w' ⟨rfl, h⟩
  exact ⟨rfl, ((Only.refl _ _).alloc _).trans h⟩
theorem Sps.take {w : World} {A : Option Addr} {n c : Nat} {l : List Sp} (h : Sps w A n c l) {m : Nat} (hm : m ≤ n) : Sps w A m c (l.take m) :=
  ⟨by rw [List.length_take, h.len]; omega, Nat.le_trans hm h.le, h.cap, fun e => ⟨by have := (h.nil e).1; omega, (h.nil e).2⟩, fun h0 => by
    obtain ⟨b, off, h1, h2, h3⟩ := h.src (by omega)
    refine ⟨b, off, h1, h2, fun j x hx => h3 j x ?_⟩
    rw [List.getElem?_take] at hx
    split at hx
    · exact hx
    · cases hx⟩
theorem take_next {l : List Sp} {k : Nat} {x : Sp} (hx : l[k]? = some x) : l.take (k + 1) = l.take k ++ [x] := by rw [List.take_add_one, hx]; rfl
theorem drop_next {l : List Sp} {k : Nat} {x : Sp} (hx : l[k]? = some x) : l.drop k = x :: l.drop (k + 1) := by
  have hk := (List.getElem?_eq_some_iff.1 hx).1
  rw [List.drop_eq_getElem_cons hk, (List.getElem?_eq_some_iff.1 hx).2]
/-- A set that the walk holds: its slice and its places. -/
def Held (w wr : World) (L : List Sp) (v : Value) : Prop := ∃ a D d, v = .slice D a.length d ∧ Sps wr D a.length d a ∧ Quiet w wr ∧ Cov L a
set_option maxRecDepth 8000 in
set_option maxHeartbeats 8000000 in
theorem order_walk {w : World} {A : Option Addr} {n c : Nat} {l : List Sp} (h : Sps w A n c l) :
    Calls Try.prog 4 #[.slice A n c] w fun e w' => e = .returned (.bool true) ∧ Quiet w w' := by
  have hnc := h.le
  have hcm := h.cap
  unfold maxLen at hcm
  have H := Lib.hid h; clear h
  go_enter Try.func4, Try.ntmps4
  go_upto_if 16 with (fail)
  go_cut [0] (fun s wx => ∃ A n c l, s = .slice A n c ∧ n ≤ 12 ∧ Sps w A n c l ∧ w = wx)
  case first =>
    by_cases hbig : 12 < n
    · have dd : decide ((12 : Int) < (n : Int)) = true := by simp; omega
      have hc5 : 12 ≤ c := by omega
      go_wp2
      go_meet
      exact ⟨_, _, _, _, rfl, by omega, H.out.take (m := 12) (by omega), rfl⟩
    · have dd : decide ((12 : Int) < (n : Int)) = false := by simp; omega
      go_wp2
      go_meet
      exact ⟨_, _, _, _, rfl, by omega, H.out, rfl⟩
  case rest =>
    clear H hnc hcm
    obtain ⟨A, n, c, l, rfl, hn, h, rfl⟩ := hcut
    have hnc := h.le
    have hcm := h.cap
    unfold maxLen at hcm
    have HL := Lib.hid h.len
    have H := Lib.hid h; clear h
    have HN := Lib.hid (Sps.nil' w)
    go_wp2
    go_loopw [3, 5] (fun v i wr => ∃ k : Nat, k ≤ n ∧ i = .int .i64 k ∧ Held w wr (l.take k) v ∧ ∀ j x, j < k → l[j]? = some x → isSp x = true) (fun _ i _ => n - (intOf i).toNat)
    case atStart => exact ⟨0, by omega, rfl, ⟨[], none, 0, rfl, HN.out, Only.refl _ _, Cov.nil⟩, fun j x hj => absurd hj (by omega)⟩
    case round =>
      obtain ⟨k, hk, rfl, ⟨a, D, d, rfl, ha, hq, hcov⟩, hall⟩ := hrel
      have HA := Lib.hid ha; clear ha
      have HQ := Lib.hid hq; clear hq
      have HC := Lib.hid hcov; clear hcov
      have HALL := Lib.hid hall; clear hall
      by_cases hc : k < n
      · have dd : decide ((k : Int) < (n : Int)) = true := by simpa using hc
        obtain ⟨b, o, rfl, hb2, hcell⟩ := (H.out.quiet HQ.out).src (by omega)
        obtain ⟨x, hx⟩ : ∃ x, l[k]? = some x := ⟨_, List.getElem?_eq_getElem (by have := HL.out; omega)⟩
        obtain ⟨c0, c1⟩ := hcell k x hx
        have HX := Lib.hid hx; clear hx hcell
        have AD := Lib.hid (add_at HA.out x)
        cases hs : isSp x with
        | false =>
          rw [add_refused hs] at AD
          go_wp2_with (go_at_call 8; refine AD.out.mono ?_; rintro e w2 ⟨D2, d2, rfl, h1, _, h3⟩; have HQ2 := Lib.hid h3; clear h3 h1)
          go_ret
          exact ⟨rfl, HQ.out.trans HQ2.out⟩
        | true =>
          obtain ⟨a2, he, hc2, _⟩ := HC.out.add (x := x) (by rw [List.length_take]; omega) hs
          rw [he] at AD
          rw [← take_next HX.out] at hc2
          have HC2 := Lib.hid hc2
          have HALL2 := Lib.hid (show ∀ j y, j < k + 1 → l[j]? = some y → isSp y = true from fun j y hj hy => by
            rcases Nat.lt_succ_iff_lt_or_eq.1 hj with q | rfl
            · exact HALL.out j y q hy
            · have := HX.out; rw [hy] at this; obtain rfl := Option.some.inj this; exact hs)
          clear hc2 he hs
          go_wp2_with (go_at_call 8; refine AD.out.mono ?_; rintro e w2 ⟨D2, d2, rfl, h1, _, h3⟩; have HA2 := Lib.hid h1; have HQ2 := Lib.hid h3; clear h3 h1)
          go_roundw
          case rel => exact ⟨k + 1, by omega, by go_num, ⟨a2, D2, d2, rfl, HA2.out, HQ.out.trans HQ2.out, HC2.out⟩, HALL2.out⟩
          case measure => simp [intOf]; omega
      · have dd : decide ((k : Int) < (n : Int)) = false := by simpa using hc
        have ht : l.take k = l := List.take_of_length_le (by have := HL.out; omega)
        rw [ht] at HC
        have HISP := Lib.hid (show ∀ x ∈ l, isSp x = true from fun x hx => by
          obtain ⟨j, hj⟩ := List.mem_iff_getElem?.1 hx
          exact HALL.out j x (by have := (List.getElem?_eq_some_iff.1 hj).1; have := HL.out; omega) hj)
        clear HALL ht
        obtain ⟨wa, hwa⟩ : ∃ wa, wa = wr := ⟨_, rfl⟩
        rw [← hwa] at HA HQ ⊢
        clear hwa
        go_wp2
        go_loopw [4, 8] (fun v i wr => ∃ (k : Nat) (z : Int), k ≤ n ∧ z = (k : Int) - 1 ∧ i = .int .i64 z ∧ Held wa wr (l.drop k) v) (fun _ i _ => (intOf i + 1).toNat)
        case atStart => exact ⟨n, _, Nat.le_refl _, rfl, rfl, [], none, 0, rfl, Sps.nil' _, Only.refl _ _, by rw [List.drop_eq_nil_of_le (by have := HL.out; omega)]; exact Cov.nil⟩
        case round =>
          obtain ⟨k2, z, hk2, hz, rfl, b, E, e0, rfl, hb, hq, hcov⟩ := hrel
          have HB := Lib.hid hb; clear hb
          have HQB := Lib.hid hq; clear hq
          have HCB := Lib.hid hcov; clear hcov
          cases k2 with
          | succ j =>
            obtain rfl : z = (j : Int) := by omega
            clear hz
            have dj : decide ((0 : Int) ≤ (j : Int)) = true := by simp
            obtain ⟨bb, oo, rfl, hb2, hcell⟩ := (H.out.quiet (HQ.out.trans HQB.out)).src (by omega)
            obtain ⟨x, hx⟩ : ∃ x, l[j]? = some x := ⟨_, List.getElem?_eq_getElem (by have := HL.out; omega)⟩
            obtain ⟨c0, c1⟩ := hcell j x hx
            have hs := HISP.out x (List.mem_of_getElem? hx)
            obtain ⟨b2, he, _, hc2⟩ := HCB.out.add (x := x) (by rw [List.length_drop]; have := HL.out; omega) hs
            rw [← drop_next hx] at hc2
            have AD := Lib.hid (add_at HB.out x)
            rw [he] at AD
            have HC2 := Lib.hid hc2
            clear hc2 he hs hx hcell
            have jn : j < n := by omega
            go_wp2_with (go_at_call 8; refine AD.out.mono ?_; rintro e w2 ⟨D2, d2, rfl, h1, _, h3⟩; have HA2 := Lib.hid h1; have HQ2 := Lib.hid h3; clear h3 h1)
            go_roundw
            case rel => exact ⟨j, _, by omega, rfl, rfl, b2, D2, d2, rfl, HA2.out, HQB.out.trans HQ2.out, HC2.out⟩
            case measure => simp [intOf]
          | zero =>
            obtain rfl : z = -1 := by omega
            clear hz
            rw [List.drop_zero] at HCB
            obtain rfl : b = a := HCB.out.uniq HC.out
            obtain ⟨wb, rfl⟩ : ∃ wb : World, wb = wr := ⟨_, rfl⟩
            have dz : decide ((0 : Int) ≤ -1) = false := by decide
            obtain ⟨z0, hz0⟩ : ∃ z0, z0 = sizeF b := ⟨_, rfl⟩
            have SD := Lib.hid (fun (W : World) (hW : Quiet wb W) => size_at (HA.out.quiet (HQB.out.trans hW)))
            have SE := Lib.hid (fun (W : World) (hW : Quiet wb W) => size_at (HB.out.quiet hW))
            rw [← hz0] at SD SE
            have HZ0 := Lib.hid hz0; clear hz0
            have HAQ := Lib.hid (fun (W : World) (hW : Quiet wb W) => HA.out.quiet (HQB.out.trans hW))
            have HQW := Lib.hid (HQ.out.trans HQB.out)
            go_upto_region 20 with (first
              | (go_at_call 13; (with_reducible refine (SD.out _ (Only.refl _ _)).mono ?_); rintro e w2 ⟨rfl, hq⟩; have R2 := Lib.hid hq; clear hq)
              | (go_at_call 13; (with_reducible refine (SE.out _ R2.out).mono ?_); rintro e w3 ⟨rfl, hq⟩; have R3 := Lib.hid (R2.out.trans hq); clear hq)
              | (go_at_call 13; (with_reducible refine (sz14 w3).mono ?_); rintro e w4 ⟨rfl, hq⟩; have R4 := Lib.hid (R3.out.trans hq); clear hq))
            clear dz SE
            go_wp2
            go_loopw [11] (fun i wx => ∃ k : Nat, k ≤ n ∧ i = .int .i64 k ∧ Quiet wb wx) (fun i _ => n - (intOf i).toNat)
            case atStart => exact ⟨0, by omega, rfl, R4.out⟩
            case round =>
              obtain ⟨k, hk, rfl, hq⟩ := hrel
              have R := Lib.hid hq; clear hq
              by_cases hc : k < n
              · have dc : decide ((k : Int) < (n : Int)) = true := by simpa using hc
                obtain ⟨b5, o5, rfl, hb2, hcell⟩ := (H.out.quiet (HQW.out.trans R.out)).src (by omega)
                obtain ⟨x, hx⟩ : ∃ x, l[k]? = some x := ⟨_, List.getElem?_eq_getElem (by have := HL.out; omega)⟩
                obtain ⟨c0, c1⟩ := hcell k x hx
                have AT := Lib.hid (fun (W : World) (hW : Quiet wb W) => show W.cell? ⟨b5, o5 + k * 2, none⟩ = some (.int .i64 x.1) ∧ W.cell? ⟨b5, o5 + k * 2 + 1, none⟩ = some (.int .i64 x.2) from by
                  obtain ⟨b', o', e1, _, hc'⟩ := (H.out.quiet (HQW.out.trans hW)).src (by omega)
                  obtain ⟨rfl, rfl⟩ : b5 = b' ∧ o5 = o' := by
                    have := Option.some.inj e1
                    simp only [Addr.mk.injEq] at this
                    exact ⟨this.1, this.2.1⟩
                  exact hc' k x hx)
                have hmem := List.mem_of_getElem? hx
                obtain ⟨he, hh⟩ := HC.out.again (x := x) (by have := HL.out; omega) (HISP.out x hmem) hmem
                have AD := Lib.hid (add_at (HAQ.out _ R.out) x)
                have HH := Lib.hid (fun (W : World) (hW : Quiet wb W) => has_at (HAQ.out W hW) x)
                rw [he] at AD
                rw [hh] at HH
                clear he hh hmem hx hcell
                go_wp2_with (first
                  | (go_at_call 8; refine AD.out.mono ?_; rintro e w5 ⟨D5, d5, rfl, h1, _, h3⟩; have F5 := Lib.hid (show Sps w5 D5 b.length d5 b from h1); have R5 := Lib.hid (R.out.trans h3); clear h1 h3; obtain ⟨y0, y1⟩ := AT.out w5 R5.out)
                  | (go_at_call 13; (with_reducible refine (size_at F5.out).mono ?_); rw [← HZ0.out]; rintro e w6 ⟨rfl, hq⟩; have R6 := Lib.hid (R5.out.trans hq); clear hq; obtain ⟨y2, y3⟩ := AT.out w6 R6.out)
                  | (go_at_call 13; (with_reducible refine (SD.out _ R6.out).mono ?_); rintro e w7 ⟨rfl, hq⟩; have R7 := Lib.hid (R6.out.trans hq); clear hq; obtain ⟨y4, y5⟩ := AT.out w7 R7.out)
                  | (go_at_call 15; (with_reducible refine (HH.out _ R7.out).mono ?_); rintro e w8 ⟨rfl, hq⟩; have R8 := Lib.hid (R7.out.trans hq); clear hq))
                go_roundw
                case rel => exact ⟨k + 1, by omega, by go_num, R8.out⟩
                case measure => simp [intOf]; omega
              · have dc : decide ((k : Int) < (n : Int)) = false := by simpa using hc
                go_wp2
                go_ret
                exact ⟨rfl, HQW.out.trans R.out⟩
theorem order_law (w : World) (A : Option Addr) (n c : Nat) (l : List Sp) (hnc : n ≤ c) (hcm : c ≤ maxLen) (hnl : A = none → n = 0 ∧ c = 0) (arg : StructsArg spCells 2 w A n l) (_ : ∀ x ∈ l, SpWf w x) :
    Calls Try.prog 4 #[.slice A n c] w fun e w' => e = .returned (.bool true) ∧ Below w.heap.size w w' :=
  (order_walk (Sps.of_arg hnc hcm hnl arg)).mono fun e w' ⟨h1, h2⟩ => ⟨h1, h2.below (Nat.le_refl _) (fun _ x => x.elim)⟩
end Go.Proofs.Ythhaaakabpnbnaa
