/-
  Has, Size; the statements' own sum and inside. No conditions.
-/
import Derived.Test.YthhaaakabpnbnaaCut
namespace Go.Proofs.Ythhaaakabpnbnaa
open Go.RowKit
set_option linter.unusedVariables false
set_option linter.unusedSimpArgs false

theorem inn_true {l : List Sp} {k : Nat} {x : Sp} {z : Int} (hx : l[k]? = some x) (h1 : x.1 ≤ z) (h2 : z < x.2) : inn l z = true := inn_iff.2 ⟨x, List.mem_of_getElem? hx, h1, h2⟩
theorem inn_false {l : List Sp} {z : Int} (h : ∀ (j : Nat) (y : Sp), j < l.length → l[j]? = some y → ¬ (y.1 ≤ z ∧ z < y.2)) : inn l z = false := by
  rw [Bool.eq_false_iff]
  intro hi
  obtain ⟨x, hx, h1⟩ := inn_iff.1 hi
  obtain ⟨j, hj⟩ := List.mem_iff_getElem?.1 hx
  exact h j x (List.getElem?_eq_some_iff.1 hj).1 hj h1
set_option maxHeartbeats 2000000 in
theorem inside_at {w : World} {A : Option Addr} {n c : Nat} {l : List Sp} (h : Sps w A n c l) (z : Int) :
    Calls Try.prog 20 #[.slice A n c, .int .i64 z] w fun e w' => e = .returned (.bool (inn l z)) ∧ Quiet w w' := by
  have hcm := h.cap
  have hnc := h.le
  have hn := h.len
  unfold maxLen at hcm
  have HN := Lib.hid hn; clear hn
  have H := Lib.hid h; clear h
  go_enter Try.func20, Try.ntmps20
  go_wp2
  go_loopw [5] (fun i wr => wr = w ∧ ∃ k : Nat, k ≤ n ∧ i = .int .i64 k ∧ ∀ (j : Nat) (y : Sp), j < k → l[j]? = some y → ¬ (y.1 ≤ z ∧ z < y.2)) (fun i _ => n - (intOf i).toNat)
  case atStart => exact ⟨rfl, 0, by omega, rfl, fun j y hj => absurd hj (by omega)⟩
  case round =>
    obtain ⟨rfl, k, hk, rfl, hall⟩ := hrel
    have HA := Lib.hid hall; clear hall
    by_cases hc : k < n
    · have dd : decide ((k : Int) < (n : Int)) = true := by simpa using hc
      obtain ⟨b, o, rfl, hb2, hcell⟩ := H.out.src (by omega)
      obtain ⟨x, hx⟩ : ∃ x, l[k]? = some x := ⟨_, List.getElem?_eq_getElem (by have := HN.out; omega)⟩
      obtain ⟨c0, c1⟩ := hcell k x hx
      have HX := Lib.hid hx; clear hx hcell
      by_cases h1 : x.1 ≤ z
      · have d1 : decide (x.1 ≤ z) = true := by simpa using h1
        by_cases h2 : z < x.2
        · have d2 : decide (z < x.2) = true := by simpa using h2
          have hi := Lib.hid (inn_true HX.out h1 h2)
          go_wp2
          go_ret
          exact ⟨by rw [hi.out]; rfl, Only.refl _ _⟩
        · have d2 : decide (z < x.2) = false := by simpa using h2
          have HA2 := Lib.hid (show ∀ (j : Nat) (y : Sp), j < k + 1 → l[j]? = some y → ¬ (y.1 ≤ z ∧ z < y.2) from fun j y hj hy => by
            rcases Nat.lt_succ_iff_lt_or_eq.1 hj with q | rfl
            · exact HA.out j y q hy
            · have := HX.out; rw [hy] at this; obtain rfl := Option.some.inj this; exact fun q => h2 q.2)
          go_wp2
          go_roundw
          case rel => exact ⟨trivial, k + 1, by omega, by go_num, HA2.out⟩
          case measure => simp [intOf]; omega
      · have d1 : decide (x.1 ≤ z) = false := by simpa using h1
        have HA2 := Lib.hid (show ∀ (j : Nat) (y : Sp), j < k + 1 → l[j]? = some y → ¬ (y.1 ≤ z ∧ z < y.2) from fun j y hj hy => by
          rcases Nat.lt_succ_iff_lt_or_eq.1 hj with q | rfl
          · exact HA.out j y q hy
          · have := HX.out; rw [hy] at this; obtain rfl := Option.some.inj this; exact fun q => h1 q.1)
        go_wp2
        go_roundw
        case rel => exact ⟨trivial, k + 1, by omega, by go_num, HA2.out⟩
        case measure => simp [intOf]; omega
    · have dd : decide ((k : Int) < (n : Int)) = false := by simpa using hc
      have hi := Lib.hid (inn_false (l := l) (z := z) fun j y hj hy => HA.out j y (by have := HN.out; omega) hy)
      go_wp2
      go_ret
      exact ⟨by rw [hi.out]; rfl, Only.refl _ _⟩
theorem sum_step {l : List Sp} {k : Nat} {x : Sp} (hx : l[k]? = some x) : sumF (l.take (k + 1)) = sumF (l.take k) + (x.2 - x.1) := by
  rw [List.take_add_one, hx, sumF_append]
  simp [sumF]
theorem sum_bound : ∀ {l : List Sp}, (∀ x ∈ l, Ok1 x) → 0 ≤ sumF l ∧ sumF l ≤ 1048576 * l.length
  | [], _ => by simp [sumF]
  | x :: l, h => by
    have h1 := sum_bound (l := l) fun y hy => h y (.tail _ hy)
    have h2 := h x (.head _)
    unfold Ok1 at h2
    simp only [sumF, List.length_cons]
    omega
theorem sum_take {l : List Sp} (h : ∀ x ∈ l, Ok1 x) (k : Nat) : 0 ≤ sumF (l.take k) ∧ sumF (l.take k) ≤ 1048576 * k := by
  have h1 := sum_bound (l := l.take k) fun x hx => h x (List.mem_of_mem_take hx)
  have h2 : (l.take k).length ≤ k := by rw [List.length_take]; omega
  omega
set_option maxHeartbeats 2000000 in
theorem sum_at {w : World} {A : Option Addr} {n c : Nat} {l : List Sp} (h : Sps w A n c l) (hok : ∀ x ∈ l, Ok1 x) (h1000 : n ≤ 1000) :
    Calls Try.prog 19 #[.slice A n c] w fun e w' => e = .returned (.int .i64 (sumF l)) ∧ Quiet w w' := by
  have hcm := h.cap
  have hnc := h.le
  have hn := h.len
  unfold maxLen at hcm
  have HN := Lib.hid hn; clear hn
  have H := Lib.hid h; clear h
  have OK := Lib.hid hok; clear hok
  go_enter Try.func19, Try.ntmps19
  go_wp2
  go_loopw [3, 4] (fun v i wr => ∃ k : Nat, k ≤ n ∧ i = .int .i64 k ∧ v = .int .i64 (sumF (l.take k)) ∧ Quiet w wr) (fun _ i _ => n - (intOf i).toNat)
  case atStart => exact ⟨0, by omega, rfl, rfl, Only.refl _ _⟩
  case round =>
    obtain ⟨k, hk, rfl, rfl, hq⟩ := hrel
    have HQ := Lib.hid hq; clear hq
    by_cases hc : k < n
    · have dd : decide ((k : Int) < (n : Int)) = true := by simpa using hc
      obtain ⟨b, o, rfl, hb2, hcell⟩ := (H.out.quiet HQ.out).src (by omega)
      obtain ⟨x, hx⟩ : ∃ x, l[k]? = some x := ⟨_, List.getElem?_eq_getElem (by have := HN.out; omega)⟩
      obtain ⟨c0, c1⟩ := hcell k x hx
      have hox := OK.out x (List.mem_of_getElem? hx)
      unfold Ok1 at hox
      obtain ⟨x0, x01, x1⟩ := hox
      obtain ⟨z0, z1⟩ := sum_take OK.out k
      have SS := Lib.hid (sum_step hx); clear hx hcell
      obtain ⟨z, hz⟩ : ∃ z, z = sumF (l.take k) := ⟨_, rfl⟩
      rw [← hz] at z0 z1 SS ⊢
      clear hz
      go_upto_region 5 with (fail)
      go_quiet (fail)
      go_wp2
      go_roundw
      case rel => exact ⟨k + 1, by omega, by go_num, by rw [SS.out]; congr 1; omega, by repeat (first | exact HQ.out | refine Only.drewN ?_ _ | refine Only.drew ?_)⟩
      case measure => simp [intOf]; omega
    · have dd : decide ((k : Int) < (n : Int)) = false := by simpa using hc
      have ht : l.take k = l := List.take_of_length_le (by have := HN.out; omega)
      rw [ht]
      go_wp2
      go_ret
      exact ⟨rfl, HQ.out⟩
set_option maxHeartbeats 2000000 in
theorem size_at {w : World} {A : Option Addr} {n c : Nat} {l : List Sp} (h : Sps w A n c l) :
    Calls Try.prog 13 #[.slice A n c] w fun e w' => e = .returned (.int .i64 (sizeF l)) ∧ Quiet w w' := by
  have hcm := h.cap
  have hnc := h.le
  have hn := h.len
  unfold maxLen at hcm
  have HN := Lib.hid hn; clear hn
  have V := Lib.hid (valid_at h)
  have H := Lib.hid h; clear h
  unfold sizeF
  cases hv : validF l with
  | false =>
    rw [hv] at V
    go_enter Try.func13, Try.ntmps13
    go_wp2_with (go_at_call 16; refine V.out.mono ?_; rintro e w2 ⟨rfl, hq2⟩; have HQ2 := Lib.hid hq2; clear hq2)
    go_ret
    exact ⟨by simp, HQ2.out⟩
  | true =>
    rw [hv] at V
    obtain ⟨hg, h32⟩ := validF_iff.1 hv
    have OK := Lib.hid hg.ok
    clear hv hg
    have hn32 : n ≤ 32 := by have := HN.out; omega
    clear h32
    rw [if_pos rfl]
    go_enter Try.func13, Try.ntmps13
    go_wp2_with (go_at_call 16; refine V.out.mono ?_; rintro e w2 ⟨rfl, hq2⟩; have HQ2 := Lib.hid hq2; clear hq2)
    go_loopw [3, 10] (fun v i wr => ∃ k : Nat, k ≤ n ∧ i = .int .i64 k ∧ v = .int .i64 (sumF (l.take k)) ∧ Quiet w wr) (fun _ i _ => n - (intOf i).toNat)
    case atStart => exact ⟨0, by omega, rfl, rfl, HQ2.out⟩
    case round =>
      obtain ⟨k, hk, rfl, rfl, hq⟩ := hrel
      have HQ := Lib.hid hq; clear hq
      by_cases hc : k < n
      · have dd : decide ((k : Int) < (n : Int)) = true := by simpa using hc
        obtain ⟨b, o, rfl, hb2, hcell⟩ := (H.out.quiet HQ.out).src (by omega)
        obtain ⟨x, hx⟩ : ∃ x, l[k]? = some x := ⟨_, List.getElem?_eq_getElem (by have := HN.out; omega)⟩
        obtain ⟨c0, c1⟩ := hcell k x hx
        have hox := OK.out x (List.mem_of_getElem? hx)
        unfold Ok1 at hox
        obtain ⟨x0, x01, x1⟩ := hox
        obtain ⟨z0, z1⟩ := sum_take OK.out k
        have SS := Lib.hid (sum_step hx); clear hx hcell
        obtain ⟨z, hz⟩ : ∃ z, z = sumF (l.take k) := ⟨_, rfl⟩
        rw [← hz] at z0 z1 SS ⊢
        clear hz
        go_wp2
        go_roundw
        case rel => exact ⟨k + 1, by omega, by go_num, by rw [SS.out], HQ.out.alloc _⟩
        case measure => simp [intOf]; omega
      · have dd : decide ((k : Int) < (n : Int)) = false := by simpa using hc
        have ht : l.take k = l := List.take_of_length_le (by have := HN.out; omega)
        rw [ht]
        go_wp2
        go_ret
        exact ⟨rfl, HQ.out⟩
set_option maxHeartbeats 2000000 in
theorem has_at {w : World} {A : Option Addr} {n c : Nat} {l : List Sp} (h : Sps w A n c l) (s : Sp) :
    Calls Try.prog 15 #[.slice A n c, .agg #[.int .i64 s.1, .int .i64 s.2]] w fun e w' => e = .returned (.bool (hasF l s)) ∧ Quiet w w' := by
  have q1 : Quiet w (w.alloc (.cells #[.int .i64 s.1, .int .i64 s.2] 28)) := (Only.refl _ _).alloc _
  have b0 := blk_new w (.cells #[.int .i64 s.1, .int .i64 s.2] 28)
  have V := Lib.hid (valid_at (h.quiet q1))
  have C := Lib.hid (fun w2 => is_at w2 s)
  have AT := Lib.hid (fun (w2 : World) (hq2 : Quiet (w.alloc (.cells #[.int .i64 s.1, .int .i64 s.2] 28)) w2) => show w2.cell? ⟨w.heap.size, 0, none⟩ = some (.int .i64 s.1) ∧ w2.cell? ⟨w.heap.size, 1, none⟩ = some (.int .i64 s.2) ∧ w.heap.size < w2.heap.size from ⟨blk_cell (hq2.keep b0 (fun x => x)) 0, blk_cell (hq2.keep b0 (fun x => x)) 1, lt_of_heap (hq2.keep b0 (fun x => x))⟩)
  have G := Lib.hid (fun (W : World) (hW : Quiet w W) => gaps_at (h.quiet hW) s)
  clear h b0
  unfold hasF okF
  cases hv : validF l with
  | false =>
    rw [hv] at V
    go_enter Try.func15, Try.ntmps15
    go_wp2_with (go_at_call 16; refine V.out.mono ?_; rintro e w2 ⟨rfl, hq2⟩; have HQ2 := Lib.hid hq2; clear hq2)
    go_ret
    exact ⟨by simp, q1.trans HQ2.out⟩
  | true =>
    rw [hv] at V
    cases hs : isSp s with
    | false =>
      rw [hs] at C
      go_enter Try.func15, Try.ntmps15
      go_wp2_with (first
        | (go_at_call 16; refine V.out.mono ?_; rintro e w2 ⟨rfl, hq2⟩; obtain ⟨t0, t1, t2⟩ := AT.out w2 hq2; have HQ2 := Lib.hid hq2; clear hq2)
        | (go_at_call 25; refine (C.out _).mono ?_; rintro e w3 ⟨rfl, hq3⟩; have HQ3 := Lib.hid hq3; clear hq3))
      go_ret
      exact ⟨by simp, q1.trans (HQ2.out.trans HQ3.out)⟩
    | true =>
      rw [hs] at C
      obtain ⟨R, hR⟩ : ∃ R, R = gapsF l s := ⟨_, rfl⟩
      rw [← hR] at G ⊢
      clear hR
      have db : ((R.length : Int) == 0) = decide (R.length = 0) := by rw [Bool.eq_iff_iff]; simp
      go_enter Try.func15, Try.ntmps15
      go_wp2_with (first
        | (go_at_call 16; refine V.out.mono ?_; rintro e w2 ⟨rfl, hq2⟩; obtain ⟨t0, t1, t2⟩ := AT.out w2 hq2; have HQ2 := Lib.hid hq2; clear hq2)
        | (go_at_call 25; refine (C.out _).mono ?_; rintro e w3 ⟨rfl, hq3⟩; have HQ3 := Lib.hid (HQ2.out.trans hq3); clear hq3; obtain ⟨t3, t4, t5⟩ := AT.out w3 HQ3.out)
        | (go_at_call 17; refine (G.out _ (q1.trans HQ3.out)).mono ?_; rintro e w4 ⟨D, d, rfl, h1, h2, h3⟩; have HQ4 := Lib.hid h3; clear h1 h2 h3))
      go_ret
      exact ⟨by simp, q1.trans (HQ3.out.trans HQ4.out)⟩
end Go.Proofs.Ythhaaakabpnbnaa
