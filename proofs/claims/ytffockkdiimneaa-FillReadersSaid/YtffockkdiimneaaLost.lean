/-
  The walk of FillLost. No conditions.
-/
import Derived.Test.YtffockkdiimneaaRel
import Derived.Test.YtffockkdiimneaaSome
import Derived.Test.YtffockkdiimneaaReadOk
import Derived.Test.YtffockkdiimneaaLostModel
namespace Go.Proofs.Ytffockkdiimneaa
open Go.RowKit
set_option linter.unusedVariables false
set_option linter.unusedSimpArgs false

/-- The contracts, over a desk that a walk holds on to. -/
theorem lbegin {w w1 : World} {p : Nat} {d d' : Desk} {id c : Int} {leads : Bool} {name : ByteArray} (h : DRel w p d w1) (hlast : d.last < 4611686018427387904) (hpart : ∀ e ∈ d.js, e.2.part < 4611686018427387904) (he : beginF d name = (id, leads, c, d')) :
    Calls Try.prog 9 #[.pointer (some ⟨p, 0, none⟩), .string name] w1 fun x w2 => x = .returned (.tuple #[.int .i64 id, .bool leads, .int .i64 c]) ∧ DRel w p d' w2 := by
  obtain ⟨D, rfl, hD, hB, hO⟩ := h
  refine (begin_at hD name hlast hpart).mono ?_
  rw [he]
  rintro x w2 ⟨rfl, D', hD', hs⟩
  exact ⟨rfl, DRel.step rfl hB hO hD' hs⟩
theorem lappend {w w1 : World} {p : Nat} {d d' : Desk} {id c0 : Int} (h : DRel w p d w1) {A : Option Addr} {n c : Nat} {l : List UInt8} (hb : Bts w1 A n c l) (he : appendF d id l = (c0, d')) :
    Calls Try.prog 12 #[.pointer (some ⟨p, 0, none⟩), .int .i64 id, .slice A n c] w1 fun x w2 => x = .returned (.int .i64 c0) ∧ DRel w p d' w2 := by
  obtain ⟨D, rfl, hD, hB, hO⟩ := h
  have hl := hb.len
  subst hl
  refine (append_at hD id A c l (Nat.le_trans hb.le hb.cap) (fun W hW => (hb.only hW (fun _ _ x => x)).toSrc) (fun e => (hb.nil e).1)).mono ?_
  rw [he]
  rintro x w2 ⟨rfl, D', hD', hs⟩
  exact ⟨rfl, DRel.step rfl hB hO hD' hs⟩
theorem lend {w w1 : World} {p : Nat} {d d' : Desk} {id c0 : Int} {whole : Bool} (h : DRel w p d w1) (he : endF d id whole = (c0, d')) :
    Calls Try.prog 10 #[.pointer (some ⟨p, 0, none⟩), .int .i64 id, .bool whole] w1 fun x w2 => x = .returned (.int .i64 c0) ∧ DRel w p d' w2 := by
  obtain ⟨D, rfl, hD, hB, hO⟩ := h
  refine (end_at hD id whole).mono ?_
  rw [he]
  rintro x w2 ⟨rfl, D', hD', hs⟩
  exact ⟨rfl, DRel.step rfl hB hO hD' hs⟩
theorem lpart {w w1 : World} {p : Nat} {d : Desk} {id c0 : Int} (h : DRel w p d w1) (he : partF d id = c0) :
    Calls Try.prog 13 #[.pointer (some ⟨p, 0, none⟩), .int .i64 id] w1 fun x w2 => x = .returned (.int .i64 c0) ∧ DRel w p d w2 := by
  obtain ⟨D, rfl, hD, hB, hO⟩ := _root_.id h
  refine (part_at hD _).mono ?_
  rw [he]
  rintro x w2 ⟨rfl, hq⟩
  exact ⟨rfl, h.quiet hq⟩
theorem Sl.toBts {w : World} {A : Option Addr} {c : Nat} {l : List UInt8} (hs : Sl w 5 A l.length c (bytes l)) : Bts w A l.length c l := by
  refine ⟨rfl, hs.le, hs.capLe, fun e => ?_, fun h0 => ?_⟩
  · rcases hs.2 with ⟨_, h5, h6⟩ | ⟨g, off, cur, h5, _⟩
    · exact ⟨h5, h6⟩
    · rw [e] at h5; cases h5
  · obtain ⟨b, off, h5, h6⟩ := hs.src (by rw [bytes_len]; exact h0)
    exact ⟨b, off, h5, hs.lt ⟨_, h5, rfl⟩, h6⟩
theorem lread {w w1 : World} {p : Nat} {d : Desk} {id a n s c0 : Int} {l : List UInt8} (h : DRel w p d w1) (he : readF d id a n = (l, s, c0)) :
    Calls Try.prog 14 #[.pointer (some ⟨p, 0, none⟩), .int .i64 id, .int .i64 a, .int .i64 n] w1 fun x w2 => ∃ A c, x = .returned (.tuple #[.slice A l.length c, .int .i64 s, .int .i64 c0]) ∧ Bts w2 A l.length c l ∧ DRel w p d w2 := by
  obtain ⟨D, rfl, hD, hB, hO⟩ := _root_.id h
  refine (read_at hD _ a n).mono ?_
  rw [he]
  rintro x w2 ⟨A, c, rfl, hs, _, hq⟩
  exact ⟨A, c, rfl, hs.toBts, h.quiet hq⟩
theorem DRel.bts {w w1 : World} {p : Nat} {d : Desk} (h : DRel w p d w1) {A : Option Addr} {n c : Nat} {l : List UInt8} (hb : Bts w A n c l) : Bts w1 A n c l := hb.only (Only.of_below h.below) (fun k hk hk' => by omega)
theorem lconv {w : World} {A : Option Addr} {n c : Nat} {l : List UInt8} (h : Bts w A n c l) : (convert 22 9 (.slice A n c)).run Try.prog w = .ok (.string ⟨l.toArray⟩) w :=
  h.conv Try.underlying22 Try.underlying5 Try.underlying9
set_option maxRecDepth 8000 in
set_option maxHeartbeats 8000000 in
theorem lost_walk (w : World) (A : Option Addr) (n c : Nat) (l : List UInt8) (hb0 : Bts w A n c l) (x : Int) :
    Calls Try.prog 4 #[.slice A n c, .int .i64 x] w fun e w' => e = .returned (.bool true) ∧ Below w.heap.size w w' := by
  have hnc := hb0.le
  have hcm := hb0.cap
  unfold maxLen at hcm
  have HB := Lib.hid hb0; clear hb0
  obtain ⟨m, hm, hm7⟩ := and_mask x 7 (by omega)
  have hm : bits .and .i64 x 7 = (m : Int) := by simpa using hm
  have hm8 : m < 8 := by omega
  go_enter Try.func4, Try.ntmps4
  go_upto_if 19 with (fail)
  go_cut [0] (fun s wx => ∃ A n c l, s = .slice A n c ∧ n ≤ 1000 ∧ Bts w A n c l ∧ w = wx)
  case first =>
    by_cases hbig : 1000 < n
    · have dd : decide ((1000 : Int) < (n : Int)) = true := by simp; omega
      have hc5 : 1000 ≤ c := by omega
      go_wp2
      go_meet
      exact ⟨_, _, _, _, rfl, by omega, HB.out.take (m := 1000) (by omega), rfl⟩
    · have dd : decide ((1000 : Int) < (n : Int)) = false := by simp; omega
      go_wp2
      go_meet
      exact ⟨_, _, _, _, rfl, by omega, HB.out, rfl⟩
  case rest =>
    clear HB hnc hcm
    obtain ⟨A, n, c, l, rfl, hn, hb, rfl⟩ := hcut
    have hlen := hb.len
    have hl : l.length ≤ 1000 := by omega
    have HLEN := Lib.hid hlen; clear hlen
    have HL := Lib.hid hl; clear hl
    have HB := Lib.hid hb; clear hb
    go_upto_region 6 with (first
      | (go_at_call 8; refine (new_at _).mono ?_; rintro e w1 ⟨D, rfl, hD, hq, hown⟩; unfold ptr; have HR := Lib.hid (DRel.start (Below.refl _ _) hD hq hown); clear hD hq hown; generalize D.p = p at HR ⊢)
      | (go_at_call 9; refine (lbegin HR.out (by decide) (by simp [newDesk]) l_begin0).mono ?_; rintro e w2 ⟨rfl, hr2⟩; have HR2 := Lib.hid hr2; clear hr2))
    clear HR
    have HAP := Lib.hid (l_append l HL.out)
    go_wp2_with (go_at_call 12; refine (lappend HR2.out (HR2.out.bts HB.out) HAP.out).mono ?_; rintro e w3 ⟨rfl, hr3⟩; have HR3 := Lib.hid hr3; clear hr3)
    clear HR2 HAP
    obtain ⟨wo, rfl⟩ : ∃ wo : World, wo = w3 := ⟨_, rfl⟩
    go_loopw [9] (fun i wr => ∃ k : Nat, k ≤ m ∧ i = .int .i64 k ∧ DRel w p (lost1 l 0 (k + 1)) wr) (fun i _ => m - (intOf i).toNat)
    case atStart => exact ⟨0, by omega, rfl, HR3.out⟩
    case round =>
      clear HR3
      obtain ⟨k, hk, rfl, hr⟩ := hrel
      have HR := Lib.hid hr; clear hr
      by_cases hc : k < m
      · have dd : decide ((k : Int) < (m : Int)) = true := by simpa using hc
        go_wp2_with (go_at_call 9; refine (lbegin HR.out (by show 1 < 4611686018427387904; omega) (by intro e he; simp [lost1] at he; subst he; show k + 1 < 4611686018427387904; omega) (l_begin l (k + 1))).mono ?_; rintro e w4 ⟨rfl, hr4⟩; have HR4 := Lib.hid hr4; clear hr4)
        go_roundw
        case rel => exact ⟨k + 1, by omega, by go_num, HR4.out⟩
        case measure => simp [intOf]; omega
      · have hkm : k = m := by omega
        subst hkm
        go_upto_region 14 with (first
          | (go_at_call 13; refine (lpart HR.out (l_part l (k + 1))).mono ?_; rintro e w4 ⟨rfl, hr4⟩; have HR4 := Lib.hid hr4; clear hr4)
          | (go_at_call 10; refine (lend HR4.out (l_end l k)).mono ?_; rintro e w5 ⟨rfl, hr5⟩; have HR5 := Lib.hid hr5; clear hr5)
          | (go_at_call 10; refine (lend HR5.out (l_ended l k)).mono ?_; rintro e w6 ⟨rfl, hr6⟩; have HR6 := Lib.hid hr6; clear hr6))
        clear HR HR4 HR5
        have hl2 : (lost1 l 2 (k + 1)).last < 4611686018427387904 := by show 1 < _; omega
        have hp2 : ∀ e ∈ (lost1 l 2 (k + 1)).js, e.2.part < 4611686018427387904 := by intro e he; simp [lost1] at he; subst he; show k + 1 < _; omega
        have CT := Lib.hid (lbegin HR6.out hl2 hp2 (l_begin2 l (k + 1)))
        clear hl2 hp2 HR6
        go_upto_region 15 with (go_at_call 9; refine CT.out.mono ?_; rintro e w7 ⟨rfl, hr7⟩; have HR7 := Lib.hid hr7; clear hr7)
        have CR := Lib.hid (lread HR7.out (l_read2 l (k + 1)))
        go_upto_region 16 with (go_at_call 14; refine CR.out.mono ?_; rintro e w8 ⟨A8, c8, rfl, hb8, hr8⟩; have HR8 := Lib.hid hr8; clear hr8 hb8)
        clear CT CR HR7
        have CR := Lib.hid (show Calls Try.prog 14 #[.pointer (some ⟨p, 0, none⟩), .int .i64 1, .int .i64 0, .int .i64 n] w8 fun x w2 => ∃ A c, x = .returned (.tuple #[.slice A l.length c, .int .i64 2, .int .i64 0]) ∧ Bts w2 A l.length c l ∧ DRel w p (lost2 l (k + 1)) w2 by rw [← HLEN.out]; exact lread HR8.out (l_read1 l (k + 1)))
        go_upto_region 17 with (go_at_call 14; refine CR.out.mono ?_; rintro e w9 ⟨A9, c9, rfl, hb9, hr9⟩; have HR9 := Lib.hid hr9; clear hr9; have CV := Lib.hid (lconv hb9); clear hb9)
        clear CR HR8
        have cv1 := CV.out
        have cv2 := lconv (HR9.out.bts HB.out)
        clear CV
        go_wp2
        go_ret
        exact ⟨rfl, HR9.out.below⟩
theorem lost_law (w : World) (A : Option Addr) (n c : Nat) (l : List Int) (hnc : n ≤ c) (hcm : c ≤ maxLen) (hnl : A = none → n = 0 ∧ c = 0) (arg : IntsArg .u8 w A n l) (x : Int) (_ : (Lit.int .i64 x).wf = true) :
    Calls Try.prog 4 #[.slice A n c, .int .i64 x] w fun e w' => e = .returned (.bool true) ∧ Below w.heap.size w w' :=
  lost_walk w A n c _ (Bts.of_arg hnc hcm hnl arg) x
end Go.Proofs.Ytffockkdiimneaa
