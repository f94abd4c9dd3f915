/-
  The walk of NetLost. No conditions.
-/
import Derived.Test.YtdigeppbflkknaaCalls
import Derived.Test.YtdigeppbflkknaaOpen
import Derived.Test.YtdigeppbflkknaaLostModel
import Derived.Laws.IdiomStrings
import Derived.Laws.BytesArg
import Derived.Deep.DeepCutAuto
import Derived.Deep.RegionHeld3
namespace Go.Proofs.Ytdigeppbflkknaa
open Go.RowKit

/-- Bytes that can be read. -/
structure Bts (w : World) (A : Option Addr) (n c : Nat) (l : List UInt8) : Prop where
  len : l.length = n
  le : n ≤ c
  cap : c ≤ maxLen
  nil : A = none → n = 0 ∧ c = 0
  src : 0 < n → ∃ b off, A = some ⟨b, off, none⟩ ∧ b < w.heap.size ∧ ∀ (i : Nat) (u : Value), (bytes l)[i]? = some u → w.cell? ⟨b, off + i, none⟩ = some u
theorem Bts.only {F : Nat → Prop} {w w' : World} {A : Option Addr} {n c : Nat} {l : List UInt8} (h : Bts w A n c l) (ho : Only F w w') (hF : ∀ k, k < w.heap.size → ¬ F k) : Bts w' A n c l :=
  ⟨h.len, h.le, h.cap, h.nil, fun h0 => by
    obtain ⟨b, off, h1, h2, h3⟩ := h.src h0
    exact ⟨b, off, h1, Nat.lt_of_lt_of_le h2 ho.size, fun i u hu => (ho.cell (p := ⟨b, off + i, none⟩) h2 (hF b h2)).trans (h3 i u hu)⟩⟩
theorem Bts.take {w : World} {A : Option Addr} {n c : Nat} {l : List UInt8} (h : Bts w A n c l) {m : Nat} (hm : m ≤ n) : Bts w A m c (l.take m) :=
  ⟨by rw [List.length_take, h.len]; omega, Nat.le_trans hm h.le, h.cap, fun e => ⟨by have := (h.nil e).1; omega, (h.nil e).2⟩, fun h0 => by
    obtain ⟨b, off, h1, h2, h3⟩ := h.src (by omega)
    refine ⟨b, off, h1, h2, fun i u hu => h3 i u ?_⟩
    rw [← bytes_take, List.getElem?_take] at hu
    split at hu
    · exact hu
    · cases hu⟩
theorem Bts.toSrc {w : World} {A : Option Addr} {n c : Nat} {l : List UInt8} (h : Bts w A n c l) : Src w A (bytes l) := fun h0 => by
  rw [bytes_len, h.len] at h0
  obtain ⟨b, off, h1, _, h3⟩ := h.src h0
  exact ⟨b, off, h1, h3⟩
theorem Bts.of_arg {w : World} {A : Option Addr} {n c : Nat} {l : List Int} (hnc : n ≤ c) (hcm : c ≤ maxLen) (hnl : A = none → n = 0 ∧ c = 0) (h : IntsArg .u8 w A n l) : Bts w A n c (l.map fun z => UInt8.ofNat z.toNat) := by
  obtain ⟨h1, h2, h3⟩ := h
  refine ⟨by simp [h1], hnc, hcm, hnl, fun h0 => ?_⟩
  obtain ⟨b, off, e1, e2, e3⟩ := h3 h0
  refine ⟨b, off, e1, e2, fun i u hu => ?_⟩
  simp only [bytes, List.map_map, List.getElem?_map, Option.map_eq_some_iff] at hu
  obtain ⟨z, hz, rfl⟩ := hu
  rw [e3 i z hz]
  have hw := wf_u8 (h2 z (List.mem_of_getElem? hz))
  simp only [Function.comp, byte, UInt8.toNat_ofNat']
  congr 2
  omega
/-- 'string(b)'. -/
theorem Bts.conv {w : World} {A : Option Addr} {n c : Nat} {l : List UInt8} (h : Bts w A n c l) {src dst e : TypeId} (hs : Try.prog.underlying src = some (.slice e)) (he : Try.prog.underlying e = some (.int .u8)) (hd : Try.prog.underlying dst = some .string) :
    (convert src dst (.slice A n c)).run Try.prog w = .ok (.string ⟨l.toArray⟩) w := by
  have hl := h.len
  subst hl
  cases A with
  | none =>
    have h0 := (h.nil rfl).1
    have : l = [] := List.eq_nil_of_length_eq_zero h0
    subst this
    exact run_convert_bytes_nil w src e hs he _ c dst hd
  | some a =>
    by_cases h0 : 0 < l.length
    · obtain ⟨b, off, h1, h2, h3⟩ := h.src h0
      obtain rfl := Option.some.inj h1
      refine run_convert_bytes_back w src dst e _ c l hs he hd fun j hj => ?_
      rw [Addr.add_lit]
      exact h3 j _ (by simp [bytes, byte, List.getElem?_eq_getElem hj])
    · refine run_convert_bytes_back w src dst e _ c l hs he hd fun j hj => by omega

/-- A net of the walk's own, wherever its blocks lie, all behind w. -/
def LRel (w : World) (p : Nat) (xs : List Wire) (wr : World) : Prop := ∃ N, N.p = p ∧ NetAt wr N xs ∧ Below w.heap.size w wr ∧ ∀ k, NOwns N k → w.heap.size ≤ k
section
variable {w wr : World} {p : Nat} {xs : List Wire}
theorem LRel.next {N N' : NMem} {w' : World} {xs' : List Wire} (hp : N.p = p) (hb : Below w.heap.size w wr) (ho : ∀ k, NOwns N k → w.heap.size ≤ k) (hn : NetAt w' N' xs') (hs : NStep wr w' N N') : LRel w p xs' w' :=
  ⟨N', hs.same.trans hp, hn, hb.trans (hs.only.below hb.size ho), fun k hk => (hs.grow k hk).elim (ho k) (fun h => Nat.le_trans hb.size h)⟩
theorem LRel.quiet {w' : World} (h : LRel w p xs wr) (hq : Quiet wr w') : LRel w p xs w' := by
  obtain ⟨N, h1, h2, h3, h4⟩ := h
  exact ⟨N, h1, h2.quiet hq, h3.trans (hq.below h3.size (fun _ x => x.elim)), h4⟩
theorem LRel.below (h : LRel w p xs wr) : Below w.heap.size w wr := h.choose_spec.2.2.1
theorem LRel.bts (h : LRel w p xs wr) {A : Option Addr} {n c : Nat} {l : List UInt8} (hb : Bts w A n c l) : Bts wr A n c l := hb.only (Only.of_below h.below) (fun k hk hk' => by omega)
theorem lopen (h : LRel w p xs wr) : Calls Try.prog 7 #[.pointer (some ⟨p, 0, none⟩)] wr fun e w' => e = .returned (.tuple #[.int .i64 (openF xs).1, .int .i64 (openF xs).2.1]) ∧ LRel w p (openF xs).2.2 w' := by
  obtain ⟨N, rfl, h2, h3, h4⟩ := h
  refine (open_at h2).mono ?_
  rintro e w' ⟨rfl, N', r1, r2⟩
  exact ⟨rfl, LRel.next rfl h3 h4 r1 r2⟩
theorem lsend (h : LRel w p xs wr) (k side : Int) {A : Option Addr} {n c : Nat} {l : List UInt8} (hb : Bts w A n c l) :
    Calls Try.prog 9 #[.pointer (some ⟨p, 0, none⟩), .int .i64 k, .int .i64 side, .slice A n c] wr fun e w' => e = .returned (.int .i64 (sendF xs k side l).1) ∧ LRel w p (sendF xs k side l).2 w' := by
  have hb2 := h.bts hb
  obtain ⟨N, rfl, h2, h3, h4⟩ := h
  have hl := hb.len
  subst hl
  refine (send_at h2 k side A c l (Nat.le_trans hb.le hb.cap) (fun W hW => (hb2.only hW (fun _ _ x => x)).toSrc) (fun e => (hb.nil e).1)).mono ?_
  rintro e w' ⟨rfl, N', r1, r2⟩
  exact ⟨rfl, LRel.next rfl h3 h4 r1 r2⟩
theorem ltake (h : LRel w p xs wr) (k side most : Int) :
    Calls Try.prog 8 #[.pointer (some ⟨p, 0, none⟩), .int .i64 k, .int .i64 side, .int .i64 most] wr fun e w' => ∃ A c, e = .returned (.tuple #[.slice A (takeF xs k side most).2.1.length c, .int .i64 (takeF xs k side most).1]) ∧
      Bts w' A (takeF xs k side most).2.1.length c (takeF xs k side most).2.1 ∧ LRel w p (takeF xs k side most).2.2 w' := by
  obtain ⟨N, rfl, h2, h3, h4⟩ := h
  refine (take_at h2 k side most).mono ?_
  rintro e w' ⟨A, c, rfl, r1, r2, N', r3, r4, r5⟩
  refine ⟨A, c, rfl, ⟨rfl, r1.le, r1.capLe, fun e => ?_, fun h0 => ?_⟩, LRel.next rfl h3 h4 r3 r4⟩
  · subst e
    rcases r1.2 with ⟨_, h5, h6⟩ | ⟨g, off, cur, h5, _⟩
    · exact ⟨h5, h6⟩
    · cases h5
  · obtain ⟨b, off, h5, h6⟩ := r1.src (by rw [bytes_len]; exact h0)
    exact ⟨b, off, h5, r1.lt ⟨_, h5, rfl⟩, h6⟩
theorem lshut (h : LRel w p xs wr) (k side : Int) : Calls Try.prog 10 #[.pointer (some ⟨p, 0, none⟩), .int .i64 k, .int .i64 side] wr fun e w' => e = .returned (.int .i64 (shutF xs k side).1) ∧ LRel w p (shutF xs k side).2 w' := by
  obtain ⟨N, rfl, h2, h3, h4⟩ := h
  refine (shut_at h2 k side).mono ?_
  rintro e w' ⟨rfl, N', r1, r2⟩
  exact ⟨rfl, LRel.next rfl h3 h4 r1 r2⟩
theorem lreset (h : LRel w p xs wr) (k : Int) : Calls Try.prog 11 #[.pointer (some ⟨p, 0, none⟩), .int .i64 k] wr fun e w' => e = .returned (.int .i64 (resetF xs k).1) ∧ LRel w p (resetF xs k).2 w' := by
  obtain ⟨N, rfl, h2, h3, h4⟩ := h
  refine (reset_at h2 k).mono ?_
  rintro e w' ⟨rfl, N', r1, r2⟩
  exact ⟨rfl, LRel.next rfl h3 h4 r1 r2⟩
theorem lwaiting (h : LRel w p xs wr) (k side : Int) : Calls Try.prog 12 #[.pointer (some ⟨p, 0, none⟩), .int .i64 k, .int .i64 side] wr fun e w' => e = .returned (.int .i64 (waitingF xs k side)) ∧ Quiet wr w' := by
  obtain ⟨N, rfl, h2, h3, h4⟩ := h
  exact waiting_at h2 k side
theorem lended (h : LRel w p xs wr) (k side : Int) : Calls Try.prog 13 #[.pointer (some ⟨p, 0, none⟩), .int .i64 k, .int .i64 side] wr fun e w' => e = .returned (.bool (endedF xs k side)) ∧ Quiet wr w' := by
  obtain ⟨N, rfl, h2, h3, h4⟩ := h
  exact ended_at h2 k side
end

theorem take_lost_n {b : List UInt8} {k : Int} {v s n : Nat} (hl : b.length = n) (h1 : 1 ≤ k) (h3 : k ≤ 3) (hv : (v : Int) = k) (hs : s < 2) (hb : b.length ≤ 1000) : takeF (stage k b v s) v s n = (20, [], stage k b v (s + 1)) := by
  subst hl
  exact take_lost h1 h3 hv hs hb
theorem take_other_n {b : List UInt8} {k : Int} {v s n : Nat} (hl : b.length = n) (h1 : 1 ≤ k) (h3 : k ≤ 3) (hv : (v : Int) ≠ k) (hv1 : 1 ≤ v) (hv3 : v ≤ 3) (hs : s < 2) (hb : b.length ≤ 1000) : takeF (stage k b v s) v s n = (0, b, stage k b v (s + 1)) := by
  subst hl
  exact take_other h1 h3 hv hv1 hv3 hs hb

set_option maxRecDepth 100000 in
set_option maxHeartbeats 4000000 in
theorem lost_walk (w : World) (A0 : Option Addr) (n0 c0 : Nat) (l0 : List UInt8) (hb0 : Bts w A0 n0 c0 l0) (k0 : Int) (hk0 : -9223372036854775808 ≤ k0 ∧ k0 ≤ 9223372036854775807) :
    Calls Try.prog 6 #[.slice A0 n0 c0, .int .i64 k0] w fun e w' => e = .returned (.bool true) ∧ Below w.heap.size w w' := by
  have hcm0 := hb0.cap
  have hnc0 := hb0.le
  unfold maxLen at hcm0
  have HB := Lib.hid hb0; clear hb0
  go_enter Try.func6, Try.ntmps6
  go_upto_if 15 with (fail)
  go_cut [0] (fun s wx => ∃ A n c l, s = .slice A n c ∧ n ≤ 1000 ∧ Bts w A n c l ∧ w = wx)
  case first =>
    by_cases hbig : 1000 < n0
    · have dd : decide ((1000 : Int) < (n0 : Int)) = true := by simp; omega
      have hc1 : 1000 ≤ c0 := by omega
      go_wp2
      go_meet
      exact ⟨_, _, _, _, rfl, by omega, HB.out.take (m := 1000) (by omega), rfl⟩
    · have dd : decide ((1000 : Int) < (n0 : Int)) = false := by simp; omega
      go_wp2
      go_meet
      exact ⟨_, _, _, _, rfl, by omega, HB.out, rfl⟩
  case rest =>
    obtain ⟨A, n, c, l, rfl, hn, hb, rfl⟩ := hcut
    clear HB
    have HB := Lib.hid hb
    have hlen := hb.len
    have HL := Lib.hid hlen; clear hlen
    clear hb
    go_wp2_with (go_at_call 14; refine (new_at _).mono ?_; rintro e w1 ⟨N, rfl, hN, hq, hown⟩; have HN := Lib.hid hN; have HQ := Lib.hid hq; have HO := Lib.hid hown; clear hN hq hown)
    have h0 : LRel w N.p [] w1 := ⟨N, rfl, HN.out, HQ.out.below (Nat.le_refl _) (fun _ x => x.elim), HO.out⟩
    clear HN HQ HO
    generalize N.p = p at h0 ⊢
    go_loopw [6] (fun i wr => ∃ j : Nat, j ≤ 3 ∧ i = .int .i64 j ∧ LRel w p (List.replicate j (fullWire l)) wr) (fun i _ => 3 - (intOf i).toNat)
    case atStart => exact ⟨0, by omega, rfl, h0⟩
    case round =>
      clear h0
      obtain ⟨j, hj, rfl, hr⟩ := hrel
      have HR := Lib.hid hr; clear hr
      by_cases hj3 : j < 3
      · have dd : decide ((j : Int) < 3) = true := by simp; omega
        go_wp2_with (first
          | (go_at_call 7; refine (lopen HR.out).mono ?_; rw [open_new (b := l) (i := j) (by omega)]; rintro e w2 ⟨rfl, hr2⟩; have HR2 := Lib.hid hr2; clear hr2)
          | (go_at_call 9; first
              | (refine (lsend HR3.out _ _ HB.out).mono ?_; rw [send_half (by have := HL.out; omega) j (by omega)]; rintro e w4 ⟨rfl, hr4⟩; have HR4 := Lib.hid hr4; clear hr4)
              | (refine (lsend HR2.out _ _ HB.out).mono ?_; rw [send_new (by have := HL.out; omega) j (by omega)]; rintro e w3 ⟨rfl, hr3⟩; have HR3 := Lib.hid hr3; clear hr3)))
        go_roundw
        case rel => exact ⟨j + 1, by omega, by go_num, HR4.out⟩
        case measure => simp [intOf]; omega
      · have dd : decide ((j : Int) < 3) = false := by simp; omega
        have hj3 : j = 3 := by omega
        rw [hj3] at HR
        clear hj3 hj
        have t1 : -3 < k0.tmod 3 := Int.lt_tmod_of_pos _ (by omega)
        have t2 : k0.tmod 3 < 3 := Int.tmod_lt_of_pos _ (by omega)
        go_upto_region 11 with (fail)
        generalize hkk : 1 + k0.tmod 3 % 3 = kk
        have hk1 : 1 ≤ kk := by omega
        have hk3 : kk ≤ 3 := by omega
        clear hkk t1 t2
        go_wp2_with (go_at_call 11; refine (lreset HR.out _).mono ?_; rw [reset_stage hk1 hk3]; rintro e w5 ⟨rfl, hr5⟩)
        go_loopw [9] (fun i wr => ∃ v : Nat, 1 ≤ v ∧ v ≤ 4 ∧ i = .int .i64 v ∧ LRel w p (stage kk l v 0) wr) (fun i _ => 4 - (intOf i).toNat)
        case atStart => exact ⟨1, by omega, by omega, rfl, hr5⟩
        case round =>
          clear hr5
          obtain ⟨v, hv1, hv4, rfl, hr⟩ := hrel
          have HV := Lib.hid hr; clear hr
          by_cases hv3 : v ≤ 3
          · have dd : decide ((v : Int) ≤ 3) = true := by simp; omega
            go_wp2
            obtain ⟨wo, rfl⟩ : ∃ wo : World, wo = wr := ⟨_, rfl⟩
            go_loopw [10] (fun i w6 => ∃ t : Nat, t ≤ 2 ∧ i = .int .i64 t ∧ LRel w p (stage kk l v t) w6) (fun i _ => 2 - (intOf i).toNat)
            case atStart => exact ⟨0, by omega, rfl, HV.out⟩
            case round =>
              clear HV
              obtain ⟨t, ht, rfl, hr⟩ := hrel
              have HT := Lib.hid hr; clear hr
              by_cases ht2 : t < 2
              · have dd2 : decide ((t : Int) < 2) = true := by simp; omega
                have hl1 : l.length ≤ 1000 := by have := HL.out; omega
                have HL1 := Lib.hid hl1; clear hl1
                by_cases hvk : (v : Int) = kk
                · have dk : ((v : Int) == kk) = true := by simpa using hvk
                  have dk2 : ((v : Int) != kk) = false := by simpa using hvk
                  have HVK := Lib.hid hvk; clear hvk
                  go_wp2_with (first
                    | (go_at_call 8; refine (ltake HT.out _ _ _).mono ?_; rw [take_lost_n HL.out hk1 hk3 HVK.out ht2 HL1.out]; rintro e w7 ⟨A', c', rfl, hb7, hr7⟩; have HT7 := Lib.hid hr7; clear hr7 hb7)
                    | (go_at_call 12; refine (lwaiting HT7.out _ _).mono ?_; rw [waiting_lost hk1 hk3 HVK.out ht2]; rintro e w8 ⟨rfl, hq8⟩; have HT8 := Lib.hid (HT7.out.quiet hq8); clear hq8)
                    | (go_at_call 13; refine (lended HT8.out _ _).mono ?_; rw [ended_lost hk1 hk3 HVK.out ht2]; rintro e w9 ⟨rfl, hq9⟩; have HT9 := Lib.hid (HT8.out.quiet hq9); clear hq9)
                    | (go_at_call 10; refine (lshut HT9.out _ _).mono ?_; rw [shut_lost hk1 hk3 HVK.out ht2]; rintro e w10 ⟨rfl, hr10⟩; have HT10 := Lib.hid hr10; clear hr10))
                  go_roundw
                  case rel =>
                    exact ⟨t + 1, by omega, by go_num, HT10.out⟩
                  case measure => simp [intOf]; omega
                · have dk : ((v : Int) == kk) = false := by simpa using hvk
                  have dk2 : ((v : Int) != kk) = true := by simpa using hvk
                  have HVK := Lib.hid hvk; clear hvk
                  go_wp2_with (first
                    | (go_at_call 8; refine (ltake HT.out _ _ _).mono ?_; rw [take_other_n HL.out hk1 hk3 HVK.out hv1 hv3 ht2 HL1.out]; rintro e w7 ⟨A', c', rfl, hb7, hr7⟩; rw [HL.out] at hb7; simp only [HL.out]; have HT7 := Lib.hid hr7; have CV1 := Bts.conv hb7 Try.underlying22 Try.underlying5 Try.underlying9; have CV2 := Bts.conv (hr7.bts HB.out) Try.underlying22 Try.underlying5 Try.underlying9; clear hr7 hb7)
                    | (go_at_call 13; refine (lended HT7.out _ _).mono ?_; rw [ended_other hk1 hk3 HVK.out hv1 hv3 ht2]; rintro e w9 ⟨rfl, hq9⟩; have HT9 := Lib.hid (HT7.out.quiet hq9); clear hq9))
                  go_roundw
                  case rel => exact ⟨t + 1, by omega, by go_num, HT9.out⟩
                  case measure => simp [intOf]; omega
              · have dd2 : decide ((t : Int) < 2) = false := by simp; omega
                have ht3 : t = 2 := by omega
                rw [ht3, next_wire hv1 hv3] at HT
                clear ht3 ht
                go_wp2
                go_roundw
                case rel => exact ⟨v + 1, by omega, by omega, by go_num, HT.out⟩
                case measure => simp [intOf]; omega
          · have dd : decide ((v : Int) ≤ 3) = false := by simp; omega
            go_wp2
            go_ret
            exact ⟨rfl, HV.out.below⟩
theorem lost_law (w : World) (A : Option Addr) (n c : Nat) (l : List Int) (hnc : n ≤ c) (hcm : c ≤ maxLen) (hnl : A = none → n = 0 ∧ c = 0) (arg : IntsArg .u8 w A n l) (k : Int) (hk : (Lit.int .i64 k).wf = true) :
    Calls Try.prog 6 #[.slice A n c, .int .i64 k] w fun e w' => e = .returned (.bool true) ∧ Below w.heap.size w w' :=
  lost_walk w A n c _ (Bts.of_arg hnc hcm hnl arg) k (wf_i64 hk)
end Go.Proofs.Ytdigeppbflkknaa
