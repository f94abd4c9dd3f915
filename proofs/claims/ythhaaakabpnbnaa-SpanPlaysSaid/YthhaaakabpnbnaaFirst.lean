/-
  Whether spans are a set; the first span that touches another one. No conditions.
-/
import Derived.Test.YthhaaakabpnbnaaSps
namespace Go.Proofs.Ythhaaakabpnbnaa
open Go.RowKit
set_option linter.unusedVariables false
set_option linter.unusedSimpArgs false

theorem takeWhile_stop {p : Sp → Bool} : ∀ {l : List Sp} {k : Nat} {x : Sp}, l[k]? = some x → p x = false → (∀ j y, j < k → l[j]? = some y → p y = true) → (l.takeWhile p).length = k
  | [], k, x, h, _, _ => by simp at h
  | a :: l, 0, x, h, hx, _ => by
    simp only [List.getElem?_cons_zero, Option.some.injEq] at h
    subst h
    rw [List.takeWhile_cons, if_neg (by simp [hx])]
    rfl
  | a :: l, k + 1, x, h, hx, hall => by
    rw [List.takeWhile_cons, if_pos (hall 0 a (by omega) rfl), List.length_cons, takeWhile_stop (k := k) (l := l) (x := x) h hx fun j y hj hy => hall (j + 1) y (by omega) hy]
theorem takeWhile_end {p : Sp → Bool} : ∀ {l : List Sp}, (∀ j y, j < l.length → l[j]? = some y → p y = true) → (l.takeWhile p).length = l.length
  | [], _ => rfl
  | a :: l, hall => by
    rw [List.takeWhile_cons, if_pos (hall 0 a (by simp) rfl), List.length_cons, List.length_cons, takeWhile_end fun j y hj hy => hall (j + 1) y (by simpa using hj) hy]
/-- A span in a block of its own. -/
def SpAt (w : World) (q : Nat) (s : Sp) : Prop := w.heap[q]? = some (.cells #[.int .i64 s.1, .int .i64 s.2] 28 (0, 0))
theorem hmf (fn : Fn) (first cap : Array Value) (w : World) : (Instr.makeFunc fn first cap).run Try.prog w = .ok (.func fn first cap) w := rfl
set_option maxHeartbeats 4000000 in
theorem first_to {w : World} {A : Option Addr} {n c : Nat} {l : List Sp} (h : Sps w A n c l) {q : Nat} {s : Sp} (hq : SpAt w q s) :
    Calls Try.prog 32 #[.slice A n c, .func (.func 33) #[] #[.pointer (some ⟨q, 0, none⟩)]] w fun e w' => e = .returned (.int .i64 ((l.takeWhile (early s)).length : Nat)) ∧ Quiet w w' := by
  have hcm := h.cap
  have hnc := h.le
  unfold maxLen at hcm
  have H := Lib.hid h; clear h
  have HQ := Lib.hid hq; clear hq
  go_enter Try.func32, Try.ntmps32
  go_wp2
  go_loopw [9] (fun i wr => ∃ k : Nat, k ≤ n ∧ i = .int .i64 k ∧ Quiet w wr ∧ ∀ j y, j < k → l[j]? = some y → early s y = true) (fun i _ => n - (intOf i).toNat)
  case atStart => exact ⟨0, by omega, rfl, Only.refl _ _, fun j y hj => absurd hj (by omega)⟩
  case round =>
    obtain ⟨k, hk, rfl, hqu, hall⟩ := hrel
    have HW := Lib.hid hqu; clear hqu
    have HA := Lib.hid hall; clear hall
    by_cases hc : k < n
    · have dd : decide ((k : Int) < (n : Int)) = true := by simpa using hc
      have hb := blk_cell (HW.out.keep HQ.out (fun x => x)) 0
      have q0 : wr.cell? ⟨q, 0, none⟩ = some (.int .i64 s.1) := hb
      have hqs := lt_of_heap (HW.out.keep HQ.out (fun x => x))
      obtain ⟨b, o, rfl, hb2, hcell⟩ := (H.out.quiet HW.out).src (by omega)
      obtain ⟨x, hx⟩ : ∃ x, l[k]? = some x := ⟨_, List.getElem?_eq_getElem (by have := H.out.len; omega)⟩
      obtain ⟨c0, c1⟩ := hcell k x hx
      have HX := Lib.hid hx; clear hx hcell hb
      by_cases he : x.2 < s.1
      · have de : decide (s.1 ≤ x.2) = false := by simpa using he
        go_wp2_with (go_in)
        go_roundw
        case rel => exact ⟨k + 1, by omega, by go_num, HW.out.trans (by repeat (first | exact Only.refl _ _ | refine Only.drewN ?_ _ | refine Only.drew ?_ | refine Only.alloc ?_ _ | refine Only.setCell ?_ (fun h => by first | (simp at h; done) | (simp at h; omega) | omega) _)), fun j y hj hy => by
          rcases Nat.lt_succ_iff_lt_or_eq.1 hj with q1 | rfl
          · exact HA.out j y q1 hy
          · have := HX.out; rw [hy] at this; obtain rfl := Option.some.inj this; simpa [early] using he⟩
        case measure => simp [intOf]; omega
      · have de : decide (s.1 ≤ x.2) = true := by simp; omega
        go_wp2_with (go_in)
        go_ret
        exact ⟨by rw [takeWhile_stop HX.out (by simp [early]; omega) HA.out]; rfl, HW.out.trans (by repeat (first | exact Only.refl _ _ | refine Only.drewN ?_ _ | refine Only.drew ?_ | refine Only.alloc ?_ _ | refine Only.setCell ?_ (fun h => by first | (simp at h; done) | (simp at h; omega) | omega) _))⟩
    · have dd : decide ((k : Int) < (n : Int)) = false := by simpa using hc
      go_wp2
      go_ret
      exact ⟨by rw [takeWhile_end fun j y hj hy => HA.out j y (by have := H.out.len; omega) hy, H.out.len]; rfl, HW.out⟩
set_option maxHeartbeats 4000000 in
theorem first_from {w : World} {A : Option Addr} {n c : Nat} {l : List Sp} (h : Sps w A n c l) {q : Nat} {s : Sp} (hq : SpAt w q s) :
    Calls Try.prog 32 #[.slice A n c, .func (.func 34) #[] #[.pointer (some ⟨q, 0, none⟩)]] w fun e w' => e = .returned (.int .i64 ((l.takeWhile (soon s)).length : Nat)) ∧ Quiet w w' := by
  have hcm := h.cap
  have hnc := h.le
  unfold maxLen at hcm
  have H := Lib.hid h; clear h
  have HQ := Lib.hid hq; clear hq
  go_enter Try.func32, Try.ntmps32
  go_wp2
  go_loopw [9] (fun i wr => ∃ k : Nat, k ≤ n ∧ i = .int .i64 k ∧ Quiet w wr ∧ ∀ j y, j < k → l[j]? = some y → soon s y = true) (fun i _ => n - (intOf i).toNat)
  case atStart => exact ⟨0, by omega, rfl, Only.refl _ _, fun j y hj => absurd hj (by omega)⟩
  case round =>
    obtain ⟨k, hk, rfl, hqu, hall⟩ := hrel
    have HW := Lib.hid hqu; clear hqu
    have HA := Lib.hid hall; clear hall
    by_cases hc : k < n
    · have dd : decide ((k : Int) < (n : Int)) = true := by simpa using hc
      have hb := blk_cell (HW.out.keep HQ.out (fun x => x)) 1
      have q0 : wr.cell? ⟨q, 1, none⟩ = some (.int .i64 s.2) := hb
      have hqs := lt_of_heap (HW.out.keep HQ.out (fun x => x))
      obtain ⟨b, o, rfl, hb2, hcell⟩ := (H.out.quiet HW.out).src (by omega)
      obtain ⟨x, hx⟩ : ∃ x, l[k]? = some x := ⟨_, List.getElem?_eq_getElem (by have := H.out.len; omega)⟩
      obtain ⟨c0, c1⟩ := hcell k x hx
      have HX := Lib.hid hx; clear hx hcell hb
      by_cases he : x.1 ≤ s.2
      · have de : decide (s.2 < x.1) = false := by simpa using he
        go_wp2_with (go_in)
        go_roundw
        case rel => exact ⟨k + 1, by omega, by go_num, HW.out.trans (by repeat (first | exact Only.refl _ _ | refine Only.drewN ?_ _ | refine Only.drew ?_ | refine Only.alloc ?_ _ | refine Only.setCell ?_ (fun h => by first | (simp at h; done) | (simp at h; omega) | omega) _)), fun j y hj hy => by
          rcases Nat.lt_succ_iff_lt_or_eq.1 hj with q1 | rfl
          · exact HA.out j y q1 hy
          · have := HX.out; rw [hy] at this; obtain rfl := Option.some.inj this; simpa [soon] using he⟩
        case measure => simp [intOf]; omega
      · have de : decide (s.2 < x.1) = true := by simp; omega
        go_wp2_with (go_in)
        go_ret
        exact ⟨by rw [takeWhile_stop HX.out (by simp [soon]; omega) HA.out]; rfl, HW.out.trans (by repeat (first | exact Only.refl _ _ | refine Only.drewN ?_ _ | refine Only.drew ?_ | refine Only.alloc ?_ _ | refine Only.setCell ?_ (fun h => by first | (simp at h; done) | (simp at h; omega) | omega) _))⟩
    · have dd : decide ((k : Int) < (n : Int)) = false := by simpa using hc
      go_wp2
      go_ret
      exact ⟨by rw [takeWhile_end fun j y hj hy => HA.out j y (by have := H.out.len; omega) hy, H.out.len]; rfl, HW.out⟩
set_option maxHeartbeats 4000000 in
theorem valid_at {w : World} {A : Option Addr} {n c : Nat} {l : List Sp} (h : Sps w A n c l) :
    Calls Try.prog 16 #[.slice A n c] w fun e w' => e = .returned (.bool (validF l)) ∧ Quiet w w' := by
  have hcm := h.cap
  have hnc := h.le
  have hn := h.len
  unfold maxLen at hcm
  have HN := Lib.hid hn; clear hn
  have H := Lib.hid h; clear h
  go_enter Try.func16, Try.ntmps16
  go_wp2
  go_loopw [3, 8] (fun v i wr => ∃ k : Nat, ∃ z : Int, k ≤ n ∧ i = .int .i64 k ∧ v = .int .i64 z ∧ Quiet w wr ∧ okFrom (-1) l = okFrom z (l.drop k)) (fun _ i _ => n - (intOf i).toNat)
  case atStart => exact ⟨0, -1, by omega, rfl, rfl, Only.refl _ _, rfl⟩
  case round =>
    obtain ⟨k, z, hk, rfl, rfl, hqu, hok⟩ := hrel
    have HW := Lib.hid hqu; clear hqu
    have HK := Lib.hid hok; clear hok
    by_cases hc : k < n
    · have dd : decide ((k : Int) < (n : Int)) = true := by simpa using hc
      obtain ⟨b, o, rfl, hb2, hcell⟩ := (H.out.quiet HW.out).src (by omega)
      have hkl : k < l.length := by rw [HN.out]; exact hc
      obtain ⟨x, hx⟩ : ∃ x, l[k]? = some x := ⟨_, List.getElem?_eq_getElem hkl⟩
      obtain ⟨c0, c1⟩ := hcell k x hx
      have hd : okFrom z (l.drop k) = (isSp x && !(decide (x.1 = x.2)) && decide (z < x.1) && okFrom x.2 (l.drop (k + 1))) := by
        rw [List.drop_eq_getElem_cons hkl, (List.getElem?_eq_some_iff.1 hx).2]; rfl
      have HD := Lib.hid hd; clear hd hkl hx hcell
      have fin : ∀ v, okFrom z (l.drop k) = v → v = false → validF l = false := fun v h1 h2 => by unfold validF; rw [HK.out, h1, h2]; rfl
      have FIN := Lib.hid fin; clear fin
      cases hs : isSp x with
      | false =>
        go_wp2_with (go_at_call 25; refine (is_at _ x).mono ?_; rw [hs]; rintro e w2 ⟨rfl, hq2⟩; have HQ2 := Lib.hid hq2; clear hq2; have z2 := HQ2.out.size)
        go_ret
        exact ⟨by rw [FIN.out _ HD.out (by rw [hs]; rfl)]; rfl, HW.out.trans (((Only.refl _ _).alloc _).trans HQ2.out)⟩
      | true =>
        have AT := Lib.hid (fun (w2 : World) (hq2 : Quiet (wr.alloc (.cells #[.int .i64 x.1, .int .i64 x.2] 28)) w2) => show w2.cell? ⟨wr.heap.size, 0, none⟩ = some (.int .i64 x.1) ∧ w2.cell? ⟨wr.heap.size, 1, none⟩ = some (.int .i64 x.2) ∧ wr.heap.size < w2.heap.size from ⟨blk_cell (hq2.keep (blk_new wr _) (fun x => x)) 0, blk_cell (hq2.keep (blk_new wr _) (fun x => x)) 1, lt_of_heap (hq2.keep (blk_new wr _) (fun x => x))⟩)
        by_cases he : x.1 = x.2
        · have de : (x.1 == x.2) = true := by simpa using he
          have HE := Lib.hid he; clear he
          go_wp2_with (go_at_call 25; refine (is_at _ x).mono ?_; rw [hs]; rintro e w2 ⟨rfl, hq2⟩; obtain ⟨t0, t1, t2⟩ := AT.out w2 hq2; have HQ2 := Lib.hid hq2; clear hq2)
          go_ret
          exact ⟨by rw [FIN.out _ HD.out (by rw [hs, decide_eq_true HE.out]; rfl)]; rfl, HW.out.trans (((Only.refl _ _).alloc _).trans HQ2.out)⟩
        · have de : (x.1 == x.2) = false := by simpa using he
          have HE := Lib.hid he; clear he
          by_cases hz : z < x.1
          · have dz : decide (x.1 ≤ z) = false := by simp; omega
            go_wp2_with (go_at_call 25; refine (is_at _ x).mono ?_; rw [hs]; rintro e w2 ⟨rfl, hq2⟩; obtain ⟨t0, t1, t2⟩ := AT.out w2 hq2; have HQ2 := Lib.hid hq2; clear hq2)
            go_roundw
            case rel => exact ⟨k + 1, x.2, by omega, by go_num, rfl, HW.out.trans (((Only.refl _ _).alloc _).trans HQ2.out), by rw [HK.out, HD.out, hs, decide_eq_false HE.out, decide_eq_true hz]; rfl⟩
            case measure => simp [intOf]; omega
          · have dz : decide (x.1 ≤ z) = true := by simp; omega
            go_wp2_with (go_at_call 25; refine (is_at _ x).mono ?_; rw [hs]; rintro e w2 ⟨rfl, hq2⟩; obtain ⟨t0, t1, t2⟩ := AT.out w2 hq2; have HQ2 := Lib.hid hq2; clear hq2)
            go_ret
            exact ⟨by rw [FIN.out _ HD.out (by rw [hs, decide_eq_false HE.out, decide_eq_false (show ¬ z < x.1 by omega)]; rfl)]; rfl, HW.out.trans (((Only.refl _ _).alloc _).trans HQ2.out)⟩
    · have dd : decide ((k : Int) < (n : Int)) = false := by simpa using hc
      have hv : validF l = decide (n ≤ 32) := by
        unfold validF
        rw [HK.out, List.drop_eq_nil_of_le (by have := HN.out; omega), HN.out]
        rfl
      have HV := Lib.hid hv; clear hv
      by_cases h32 : n ≤ 32
      · have d3 : decide ((n : Int) ≤ 32) = true := by simp; omega
        go_wp2
        go_ret
        exact ⟨by rw [HV.out, decide_eq_true h32]; rfl, HW.out⟩
      · have d3 : decide ((n : Int) ≤ 32) = false := by simp; omega
        go_wp2
        go_ret
        exact ⟨by rw [HV.out, decide_eq_false h32]; rfl, HW.out⟩
end Go.Proofs.Ythhaaakabpnbnaa
