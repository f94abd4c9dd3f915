/-
  The walk of SpanPlays. No conditions.
-/
import Derived.Test.YthhaaakabpnbnaaRefCalls
import Derived.Test.YthhaaakabpnbnaaKeeps
namespace Go.Proofs.Ythhaaakabpnbnaa
open Go.RowKit
set_option linter.unusedVariables false
set_option linter.unusedSimpArgs false

theorem remove34 : removeF [(0, 9)] (3, 4) = ([(0, 3), (4, 9)], 0) := by decide
theorem rm34 (W : World) : Calls Try.prog 10 #[.slice (some ⟨W.heap.size, 0, none⟩) 1 1, .agg #[.int .i64 3, .int .i64 4]] (W.alloc (.cells #[.int .i64 0, .int .i64 9] 28)) fun e w' => ∃ D c, e = .returned (.tuple #[.slice D 2 c, .int .i64 0]) ∧ Quiet W w' := by
  have := remove_at (one_new W (0, 9)) (3, 4)
  rw [remove34] at this
  refine this.mono ?_
  rintro e w' ⟨D, c, rfl, _, _, h⟩
  exact ⟨D, c, rfl, ((Only.refl _ _).alloc _).trans h⟩
/-- Two slices that read alike. -/
def Both (w wr : World) (x y : Value) : Prop := ∃ a D d D' d', x = .slice D a.length d ∧ y = .slice D' a.length d' ∧ Sps wr D a.length d a ∧ Sps wr D' a.length d' a ∧ Quiet w wr
set_option maxRecDepth 8000 in
set_option maxHeartbeats 8000000 in
theorem plays_walk {w : World} {A : Option Addr} {n c : Nat} {l : List Sp} (h : Sps w A n c l) (B : Option Addr) (m c2 : Nat) (lb : List Bool) (hmc : m ≤ c2) (hcm2 : c2 ≤ maxLen) (arg2 : BoolsArg w B m lb) :
    Calls Try.prog 3 #[.slice A n c, .slice B m c2] w fun e w' => e = .returned (.bool true) ∧ Quiet w w' := by
  have hcm := h.cap
  have hnc := h.le
  unfold maxLen at hcm hcm2
  have HN := Lib.hid h.len
  have H := Lib.hid h; clear h
  have A2 := Lib.hid arg2; clear arg2
  go_enter Try.func3, Try.ntmps3
  go_wp2
  go_loopw [5, 6, 7] (fun x y i wr => ∃ k : Nat, k ≤ 100 ∧ i = .int .i64 k ∧ Both w wr x y) (fun _ _ i _ => 100 - (intOf i).toNat)
  case atStart => exact ⟨0, by omega, rfl, [], none, 0, none, 0, rfl, rfl, Sps.nil' _, Sps.nil' _, Only.refl _ _⟩
  case round =>
    obtain ⟨k, hk, rfl, a, D, d, D', d', rfl, rfl, hx, hy, hq⟩ := hrel
    have HX := Lib.hid hx; clear hx
    have HY := Lib.hid hy; clear hy
    have HQ := Lib.hid hq; clear hq
    by_cases hc : k < n ∧ k < 100
    · obtain ⟨h1, h2⟩ := hc
      have dd1 : decide ((k : Int) < (n : Int)) = true := by simpa using h1
      have dd2 : decide ((k : Int) < 100) = true := by simp; omega
      obtain ⟨b, o, rfl, hb2, hcell⟩ := (H.out.quiet HQ.out).src (by omega)
      obtain ⟨x, hx⟩ : ∃ x, l[k]? = some x := ⟨_, List.getElem?_eq_getElem (by have := HN.out; omega)⟩
      obtain ⟨c0, c1⟩ := hcell k x hx
      have AT := Lib.hid (fun (W : World) (hW : Quiet wr W) => show W.cell? ⟨b, o + k * 2, none⟩ = some (.int .i64 x.1) ∧ W.cell? ⟨b, o + k * 2 + 1, none⟩ = some (.int .i64 x.2) from by
        obtain ⟨b', o', e1, _, hc'⟩ := (H.out.quiet (HQ.out.trans hW)).src (by omega)
        obtain ⟨rfl, rfl⟩ : b = b' ∧ o = o' := by
          have := Option.some.inj e1
          simp only [Addr.mk.injEq] at this
          exact ⟨this.1, this.2.1⟩
        exact hc' k x hx)
      clear hcell hx
      have hl2 := A2.out.1
      have HL2 := Lib.hid hl2; clear hl2
      by_cases hkm : k < m
      · have dm : decide ((k : Int) < (m : Int)) = true := by simpa using hkm
        obtain ⟨b2, o2, rfl, hb3, hcell2⟩ := A2.out.2 (by omega)
        obtain ⟨t, ht⟩ : ∃ t, lb[k]? = some t := ⟨_, List.getElem?_eq_getElem (by have := HL2.out; omega)⟩
        have hce : wr.cell? ⟨b2, o2 + k, none⟩ = some (.bool t) := (HQ.out.cell (p := ⟨b2, o2 + k, none⟩) hb3 (fun x => x)).trans (hcell2 k t ht)
        clear hcell2 ht
        cases t with
        | true =>
          obtain ⟨r, hr⟩ : ∃ r, r = addF a x := ⟨_, rfl⟩
          obtain ⟨R, z⟩ := r
          have C1 := Lib.hid (show Calls Try.prog 8 #[.slice D a.length d, .agg #[.int .i64 x.1, .int .i64 x.2]] wr fun e w' => Res wr (R, z) e w' by rw [hr]; exact add_at HX.out x)
          have C2 := Lib.hid (fun (W : World) (hW : Quiet wr W) => show Calls Try.prog 9 #[.slice D' a.length d', .agg #[.int .i64 x.1, .int .i64 x.2]] W fun e w' => Res W (R, z) e w' by rw [hr]; exact radd_at (HY.out.quiet hW) x)
          clear hr
          have dz : (z != z) = false := by simp
          go_upto_region 12 with (first
            | (go_at_call 8; refine C1.out.mono ?_; rintro e w2 ⟨D1, d1, rfl, h1, _, h3⟩; have F1 := Lib.hid (show Sps w2 D1 R.length d1 R from h1); have R1 := Lib.hid h3; clear h1 h3; obtain ⟨y0, y1⟩ := AT.out w2 R1.out)
            | (go_at_call 9; refine (C2.out w2 R1.out).mono ?_; rintro e w3 ⟨D2, d2, rfl, h1, _, h3⟩; have F2 := Lib.hid (show Sps w3 D2 R.length d2 R from h1); have G1 := Lib.hid (F1.out.quiet h3); have R2 := Lib.hid (R1.out.trans h3); clear h1 h3))
          clear C1 C2 y0 y1 c0 c1 HX HY
          have S1 := Lib.hid (same_at G1.out F2.out)
          obtain ⟨z0, hz0⟩ : ∃ z0, z0 = sizeF R := ⟨_, rfl⟩
          have SZ1 := Lib.hid (fun (W : World) (hW : Quiet w3 W) => size_at (G1.out.quiet hW))
          have SZ2 := Lib.hid (fun (W : World) (hW : Quiet w3 W) => rsize_at (F2.out.quiet hW))
          rw [← hz0] at SZ1 SZ2
          clear hz0
          go_wp2_with (first
            | (go_at_call 12; refine S1.out.mono ?_; rintro e w4 ⟨rfl, hq⟩; have R4 := Lib.hid hq; clear hq)
            | (go_at_call 13; refine (SZ1.out w4 R4.out).mono ?_; rintro e w5 ⟨rfl, hq⟩; have R5 := Lib.hid (R4.out.trans hq); clear hq)
            | (go_at_call 14; refine (SZ2.out w5 R5.out).mono ?_; rintro e w6 ⟨rfl, hq⟩; have R6 := Lib.hid (R5.out.trans hq); clear hq))
          go_roundw
          case rel => exact ⟨k + 1, by omega, by go_num, R, D1, d1, D2, d2, rfl, rfl, G1.out.quiet R6.out, F2.out.quiet R6.out, HQ.out.trans (R2.out.trans R6.out)⟩
          case measure => simp [intOf]; omega
        | false =>
          obtain ⟨r, hr⟩ : ∃ r, r = removeF a x := ⟨_, rfl⟩
          obtain ⟨R, z⟩ := r
          have C1 := Lib.hid (show Calls Try.prog 10 #[.slice D a.length d, .agg #[.int .i64 x.1, .int .i64 x.2]] wr fun e w' => Res wr (R, z) e w' by rw [hr]; exact remove_at HX.out x)
          have C2 := Lib.hid (fun (W : World) (hW : Quiet wr W) => show Calls Try.prog 11 #[.slice D' a.length d', .agg #[.int .i64 x.1, .int .i64 x.2]] W fun e w' => Res W (R, z) e w' by rw [hr]; exact rremove_at (HY.out.quiet hW) x)
          clear hr
          have dz : (z != z) = false := by simp
          go_upto_region 12 with (first
            | (go_at_call 10; refine C1.out.mono ?_; rintro e w2 ⟨D1, d1, rfl, h1, _, h3⟩; have F1 := Lib.hid (show Sps w2 D1 R.length d1 R from h1); have R1 := Lib.hid h3; clear h1 h3; obtain ⟨y0, y1⟩ := AT.out w2 R1.out)
            | (go_at_call 11; refine (C2.out w2 R1.out).mono ?_; rintro e w3 ⟨D2, d2, rfl, h1, _, h3⟩; have F2 := Lib.hid (show Sps w3 D2 R.length d2 R from h1); have G1 := Lib.hid (F1.out.quiet h3); have R2 := Lib.hid (R1.out.trans h3); clear h1 h3))
          clear C1 C2 y0 y1 c0 c1 HX HY
          have S1 := Lib.hid (same_at G1.out F2.out)
          obtain ⟨z0, hz0⟩ : ∃ z0, z0 = sizeF R := ⟨_, rfl⟩
          have SZ1 := Lib.hid (fun (W : World) (hW : Quiet w3 W) => size_at (G1.out.quiet hW))
          have SZ2 := Lib.hid (fun (W : World) (hW : Quiet w3 W) => rsize_at (F2.out.quiet hW))
          rw [← hz0] at SZ1 SZ2
          clear hz0
          go_wp2_with (first
            | (go_at_call 12; refine S1.out.mono ?_; rintro e w4 ⟨rfl, hq⟩; have R4 := Lib.hid hq; clear hq)
            | (go_at_call 13; refine (SZ1.out w4 R4.out).mono ?_; rintro e w5 ⟨rfl, hq⟩; have R5 := Lib.hid (R4.out.trans hq); clear hq)
            | (go_at_call 14; refine (SZ2.out w5 R5.out).mono ?_; rintro e w6 ⟨rfl, hq⟩; have R6 := Lib.hid (R5.out.trans hq); clear hq))
          go_roundw
          case rel => exact ⟨k + 1, by omega, by go_num, R, D1, d1, D2, d2, rfl, rfl, G1.out.quiet R6.out, F2.out.quiet R6.out, HQ.out.trans (R2.out.trans R6.out)⟩
          case measure => simp [intOf]; omega
      · have dm : decide ((k : Int) < (m : Int)) = false := by simpa using hkm
        obtain ⟨r, hr⟩ : ∃ r, r = removeF a x := ⟨_, rfl⟩
        obtain ⟨R, z⟩ := r
        have C1 := Lib.hid (show Calls Try.prog 10 #[.slice D a.length d, .agg #[.int .i64 x.1, .int .i64 x.2]] wr fun e w' => Res wr (R, z) e w' by rw [hr]; exact remove_at HX.out x)
        have C2 := Lib.hid (fun (W : World) (hW : Quiet wr W) => show Calls Try.prog 11 #[.slice D' a.length d', .agg #[.int .i64 x.1, .int .i64 x.2]] W fun e w' => Res W (R, z) e w' by rw [hr]; exact rremove_at (HY.out.quiet hW) x)
        clear hr
        have dz : (z != z) = false := by simp
        go_upto_region 12 with (first
          | (go_at_call 10; refine C1.out.mono ?_; rintro e w2 ⟨D1, d1, rfl, h1, _, h3⟩; have F1 := Lib.hid (show Sps w2 D1 R.length d1 R from h1); have R1 := Lib.hid h3; clear h1 h3; obtain ⟨y0, y1⟩ := AT.out w2 R1.out)
          | (go_at_call 11; refine (C2.out w2 R1.out).mono ?_; rintro e w3 ⟨D2, d2, rfl, h1, _, h3⟩; have F2 := Lib.hid (show Sps w3 D2 R.length d2 R from h1); have G1 := Lib.hid (F1.out.quiet h3); have R2 := Lib.hid (R1.out.trans h3); clear h1 h3))
        clear C1 C2 y0 y1 c0 c1 HX HY
        have S1 := Lib.hid (same_at G1.out F2.out)
        obtain ⟨z0, hz0⟩ : ∃ z0, z0 = sizeF R := ⟨_, rfl⟩
        have SZ1 := Lib.hid (fun (W : World) (hW : Quiet w3 W) => size_at (G1.out.quiet hW))
        have SZ2 := Lib.hid (fun (W : World) (hW : Quiet w3 W) => rsize_at (F2.out.quiet hW))
        rw [← hz0] at SZ1 SZ2
        clear hz0
        go_wp2_with (first
          | (go_at_call 12; refine S1.out.mono ?_; rintro e w4 ⟨rfl, hq⟩; have R4 := Lib.hid hq; clear hq)
          | (go_at_call 13; refine (SZ1.out w4 R4.out).mono ?_; rintro e w5 ⟨rfl, hq⟩; have R5 := Lib.hid (R4.out.trans hq); clear hq)
          | (go_at_call 14; refine (SZ2.out w5 R5.out).mono ?_; rintro e w6 ⟨rfl, hq⟩; have R6 := Lib.hid (R5.out.trans hq); clear hq))
        go_roundw
        case rel => exact ⟨k + 1, by omega, by go_num, R, D1, d1, D2, d2, rfl, rfl, G1.out.quiet R6.out, F2.out.quiet R6.out, HQ.out.trans (R2.out.trans R6.out)⟩
        case measure => simp [intOf]; omega
    · have hstop : n ≤ k ∨ (k < n ∧ 100 ≤ k) := by omega
      clear hc
      have C := Lib.hid (rm34 wr)
      rcases hstop with h1 | ⟨h1, h2⟩
      · have dd1 : decide ((k : Int) < (n : Int)) = false := by simp; omega
        go_wp2_with (go_at_call 10; refine C.out.mono ?_; rintro e w2 ⟨D, d, rfl, hq⟩; have R := Lib.hid hq; clear hq)
        go_ret
        exact ⟨rfl, HQ.out.trans R.out⟩
      · have dd1 : decide ((k : Int) < (n : Int)) = true := by simp; omega
        have dd2 : decide ((k : Int) < 100) = false := by simp; omega
        go_wp2_with (go_at_call 10; refine C.out.mono ?_; rintro e w2 ⟨D, d, rfl, hq⟩; have R := Lib.hid hq; clear hq)
        go_ret
        exact ⟨rfl, HQ.out.trans R.out⟩
theorem plays_law (w : World) (A : Option Addr) (n c : Nat) (l : List Sp) (hnc : n ≤ c) (hcm : c ≤ maxLen) (hnl : A = none → n = 0 ∧ c = 0) (arg : StructsArg spCells 2 w A n l) (_ : ∀ x ∈ l, SpWf w x) (B : Option Addr) (m c2 : Nat) (lb : List Bool) (hmc : m ≤ c2) (hcm2 : c2 ≤ maxLen) (_ : B = none → m = 0 ∧ c2 = 0) (arg2 : BoolsArg w B m lb) :
    Calls Try.prog 3 #[.slice A n c, .slice B m c2] w fun e w' => e = .returned (.bool true) ∧ Below w.heap.size w w' :=
  (plays_walk (Sps.of_arg hnc hcm hnl arg) B m c2 lb hmc hcm2 arg2).mono fun e w' ⟨h1, h2⟩ => ⟨h1, h2.below (Nat.le_refl _) (fun _ x => x.elim)⟩
end Go.Proofs.Ythhaaakabpnbnaa
