/-
  The reference's ends: all places where something begins or ends, rising. No conditions.
-/
import Derived.Test.YthhaaakabpnbnaaEnds
namespace Go.Proofs.Ythhaaakabpnbnaa
open Go.RowKit
set_option linter.unusedVariables false
set_option linter.unusedSimpArgs false

def ints (E : List Int) : List Value := E.map (Value.int .i64)
theorem ints_len (E : List Int) : (ints E).length = E.length := by simp [ints]
theorem ints_app (E F : List Int) : ints (E ++ F) = ints E ++ ints F := by simp [ints]
theorem ints_at {E : List Int} {i : Nat} {x : Int} (h : E[i]? = some x) : (ints E)[i]? = some (.int .i64 x) := by simp [ints, h]
theorem ints_set (E : List Int) (i : Nat) (x : Int) : ints (E.set i x) = (ints E).set i (.int .i64 x) := by simp [ints]
theorem ints_one (E : List Int) : ∀ v ∈ ints E, v.oneCell' = true := by
  intro v hv
  simp only [ints, List.mem_map] at hv
  obtain ⟨x, _, rfl⟩ := hv
  rfl
theorem Try.row3 : (Try.prog.info? 3).map (fun i => (i.zero, i.size, i.bytes)) = some (some (.int .i64 0), 1, 8) := by kernel_rfl
theorem src_two (X : World) (a b : Int) : Src (X.alloc (.cells #[.int .i64 a, .int .i64 b] 3)) (some ⟨X.heap.size, 0, none⟩) (ints [a, b]) := fun _ =>
  ⟨X.heap.size, 0, rfl, fun i u hu => by
    rw [Nat.zero_add, blk_cell (blk_new X _) i, ← hu]
    match i with
    | 0 => rfl
    | 1 => rfl
    | i + 2 => rfl⟩
theorem Sl.set {w : World} {e : TypeId} {g off n c : Nat} {xs : List Value} (h : Sl w e (some ⟨g, off, none⟩) n c xs) {i : Nat} (hi : i < n) (v : Value) : Sl (w.setCell ⟨g, off + i, none⟩ v) e (some ⟨g, off, none⟩) n c (xs.set i v) := by
  refine ⟨by rw [List.length_set]; exact h.1, .inr ?_⟩
  rcases h.2 with ⟨h1, _⟩ | ⟨g', off', cur, h1, h2, h3, h4, h5, h6⟩
  · cases h1
  · have h1 := Option.some.inj h1
    simp only [Addr.mk.injEq] at h1
    obtain ⟨rfl, rfl, _⟩ := h1
    refine ⟨g, off, cur.setIfInBounds (off + i) v, rfl, blk_set h2 (off + i) v, h3, by simpa using h4, h5, fun j x hx => ?_⟩
    rw [List.getElem?_set] at hx
    rw [Array.getElem?_setIfInBounds]
    by_cases e1 : i = j
    · subst e1
      rw [if_pos rfl, if_pos (by have := h.1; omega)] at hx
      rw [if_pos rfl, if_pos (by omega)]
      exact hx
    · rw [if_neg e1] at hx
      rw [if_neg (by omega)]
      exact h6 j x hx
def flatE (l : List Sp) : List Int := l.flatMap (fun x => [x.1, x.2])
theorem flatE_len : ∀ l : List Sp, (flatE l).length = 2 * l.length
  | [] => rfl
  | x :: l => by
    have := flatE_len l
    simp only [flatE, List.flatMap_cons, List.length_append, List.length_cons, List.length_nil] at this ⊢
    omega
theorem flatE_next {l : List Sp} {k : Nat} {x : Sp} (hx : l[k]? = some x) : flatE (l.take (k + 1)) = flatE (l.take k) ++ [x.1, x.2] := by
  unfold flatE
  rw [List.take_add_one, hx, List.flatMap_append]
  rfl
/-- A row of numbers of the call's own. -/
structure NRow (w wr : World) (A : Option Addr) (n c : Nat) (E : List Int) : Prop where
  sl : Sl wr 3 A n c (ints E)
  lo : ∀ k, RowOf A k → w.heap.size ≤ k
  q : Quiet w wr
theorem NRow.append {w wr W w' : World} {A A' : Option Addr} {n c c' : Nat} {E F : List Int} {m : Nat} (h : NRow w wr A n c E) (hq : Quiet wr W) (hs : Sl w' 3 A' (n + m) c' (ints E ++ ints F)) (ho : Only (RowOf A) W w') (hr : ∀ k, RowOf A' k → RowOf A k ∨ W.heap.size ≤ k) : NRow w w' A' (n + m) c' (E ++ F) :=
  ⟨by rw [ints_app]; exact hs, fun k hk => (hr k hk).elim (h.lo k) (fun q => Nat.le_trans (h.q.trans hq).size q), (h.q.trans hq).over ho fun i hi q => by have := h.lo i q; omega⟩
theorem NRow.keep {w wr W w' : World} {A : Option Addr} {n c : Nat} {E : List Int} (h : NRow w wr A n c E) (hq : Quiet wr W) (ho : Only (RowOf A) W w') {k : Nat} {cs : Array Value} {t : TypeId} (hk : W.heap[k]? = some (.cells cs t (0, 0))) (ht : t ≠ 3) : w'.heap[k]? = some (.cells cs t (0, 0)) :=
  ho.keep hk fun q => by
    obtain ⟨cur, hc⟩ := (h.sl.only hq (fun _ _ x => x)).type q
    rw [hc] at hk
    injection hk with hk
    injection hk with _ e
    exact ht e.symm
theorem nrow_cell {w : World} {g off n c : Nat} {E : List Int} (h : Sl w 3 (some ⟨g, off, none⟩) n c (ints E)) {i : Nat} {x : Int} (hx : E[i]? = some x) : w.cell? ⟨g, off + i, none⟩ = some (.int .i64 x) := by
  obtain ⟨g', o', e, _, hc⟩ := h.cell (ints_at hx)
  have e := Option.some.inj e
  simp only [Addr.mk.injEq] at e
  obtain ⟨rfl, rfl, _⟩ := e
  exact hc
theorem NRow.swap {w wr W : World} {g off n c : Nat} {E : List Int} (h : NRow w wr (some ⟨g, off, none⟩) n c E) (hq : Quiet wr W) {i k : Nat} (hi : i < n) (hk : k < n) (x y : Int) :
    NRow w ((W.setCell ⟨g, off + i, none⟩ (.int .i64 y)).setCell ⟨g, off + k, none⟩ (.int .i64 x)) (some ⟨g, off, none⟩) n c (swap E i k x y) := by
  have hg : w.heap.size ≤ g := h.lo g ⟨_, rfl, rfl⟩
  refine ⟨?_, h.lo, ((h.q.trans hq).setCell (fun q => absurd q (Nat.not_lt.2 hg)) _).setCell (fun q => absurd q (Nat.not_lt.2 hg)) _⟩
  unfold Ythhaaakabpnbnaa.swap
  rw [ints_set, ints_set]
  exact ((h.sl.only hq (fun _ _ x => x)).set hi _).set hk _
set_option maxRecDepth 8000 in
set_option maxHeartbeats 8000000 in
theorem ends_at {w : World} {A : Option Addr} {n c : Nat} {l : List Sp} (h : Sps w A n c l) (h32 : n ≤ 32) (s : Sp) :
    Calls Try.prog 35 #[.slice A n c, .agg #[.int .i64 s.1, .int .i64 s.2]] w fun e w' => ∃ E D d, e = .returned (.slice D (2 * n + 2) d) ∧ E.length = 2 * n + 2 ∧ Rising E ∧ (∀ z, z ∈ E ↔ z ∈ ends l s) ∧ NRow w w' D (2 * n + 2) d E := by
  obtain ⟨i0, hi0, hz0, hz1, hz2⟩ := info_parts Try.row3
  have hcm := h.cap
  have hnc := h.le
  unfold maxLen at hcm
  have HN := Lib.hid h.len
  have H := Lib.hid h; clear h
  have bx := blk_new w (.cells #[.int .i64 s.1, .int .i64 s.2] 28)
  have BX := Lib.hid bx
  have N0 := Lib.hid (show NRow w (w.alloc (.cells #[.int .i64 s.1, .int .i64 s.2] 28)) none 0 0 [] from ⟨Sl.nil _ _, fun k ⟨a, e, _⟩ => (nomatch e), (Only.refl _ _).alloc _⟩)
  clear bx
  go_enter Try.func35, Try.ntmps35
  go_wp2
  go_loopw [5, 6] (fun v i wr => ∃ (k m : Nat) (B : Option Addr) (d : Nat), k ≤ n ∧ m = 2 * k ∧ i = .int .i64 k ∧ v = .slice B m d ∧ NRow w wr B m d (flatE (l.take k)) ∧ wr.heap[w.heap.size]? = some (.cells #[.int .i64 s.1, .int .i64 s.2] 28 (0, 0))) (fun _ i _ => n - (intOf i).toNat)
  case atStart => exact ⟨0, 0, none, 0, by omega, rfl, rfl, rfl, N0.out, BX.out⟩
  case round =>
    obtain ⟨k, m, B, d, hk, hm, rfl, rfl, hr, hb⟩ := hrel
    have HB := Lib.hid hb; clear hb
    have HR := Lib.hid hr; clear hr
    have hm64 : m ≤ 64 := by omega
    have HM := Lib.hid hm; clear hm
    by_cases hc : k < n
    · have dc : decide ((k : Int) < (n : Int)) = true := by simpa using hc
      have k0 : (0 : Int) ≤ (k : Int) := by omega
      have k1 : (k : Int) < (n : Int) := by omega
      obtain ⟨b, o, rfl, hb2, hcell⟩ := (H.out.quiet HR.out.q).src (by omega)
      obtain ⟨x, hx⟩ : ∃ x, l[k]? = some x := ⟨_, List.getElem?_eq_getElem (by have := HN.out; omega)⟩
      obtain ⟨c0, c1⟩ := hcell k x hx
      have HF := Lib.hid (flatE_next hx)
      clear hx hcell
      have SRC := Lib.hid (src_two wr.drew x.1 x.2)
      have HSL := Lib.hid HR.out.sl
      obtain ⟨L, hL⟩ : ∃ L, L = flatE (l.take k) := ⟨_, rfl⟩
      rw [← hL] at HF HR HSL
      clear hL
      go_upto_region 5 with (fail)
      go_region_law (refine step_append_sl _ rfl (.tmp 16) (.tmp 27) 47 rfl 3 i0 (.int .i64 0) 8 Try.underlying47 hi0 hz0 hz1 hz2 rfl B m d (ints L) rfl ((HSL.out.only (F := fun _ => False) (Only.drew (Only.refl _ _)) (fun _ _ x => x)).alloc _) (some ⟨wr.heap.size, 0, none⟩) 2 2 (ints [x.1, x.2]) rfl rfl SRC.out (fun e => (nomatch e)) (ints_one _) (by unfold maxLen; omega) (by omega) ?_; intro B' d' w5 hsl' hon' hrow'; have NR5 := Lib.hid (HR.out.append (F := [x.1, x.2]) ((Only.drew (Only.refl _ _)).alloc _) hsl' hon' hrow'); have HB5 := Lib.hid (HR.out.keep ((Only.drew (Only.refl _ _)).alloc _) hon' (blk_alloc (show wr.drew.heap[w.heap.size]? = _ from HB.out) _) (by decide)); clear hsl' hon' hrow')
      all_goals try go_wp2
      all_goals
        go_roundw
        case rel => exact ⟨k + 1, m + 2, B', d', by omega, by have := HM.out; omega, by go_num, rfl, by rw [HF.out]; exact NR5.out, HB5.out⟩
        case measure => simp [intOf]; omega
    · have dc : decide ((k : Int) < (n : Int)) = false := by simpa using hc
      have ht : l.take k = l := List.take_of_length_le (by have := HN.out; omega)
      rw [ht] at HR
      have hkn : m = 2 * n := by have := HM.out; omega
      have HKN := Lib.hid hkn
      clear ht hkn
      have b0 := blk_cell HB.out 0
      have b1 := blk_cell HB.out 1
      simp only [List.getElem?_toArray, List.getElem?_cons_zero, List.getElem?_cons_succ] at b0 b1
      have bs := lt_of_heap HB.out
      have SRC := Lib.hid (src_two wr s.1 s.2)
      have HSL := Lib.hid HR.out.sl
      obtain ⟨L, hL⟩ : ∃ L, L = flatE l := ⟨_, rfl⟩
      rw [← hL] at HR HSL
      have HLE := Lib.hid (show L ++ [s.1, s.2] = ends l s by rw [hL]; rfl)
      clear hL
      go_wp2_with (at_builtin; refine wpList_append_sl _ rfl (.tmp 29) (.tmp 34) 47 rfl 3 i0 (.int .i64 0) 8 Try.underlying47 hi0 hz0 hz1 hz2 rfl B m d (ints L) rfl (HSL.out.alloc _) (some ⟨wr.heap.size, 0, none⟩) 2 2 (ints [s.1, s.2]) rfl rfl SRC.out (fun e => (nomatch e)) (ints_one _) (by unfold maxLen; omega) (by omega) ?_)
      intro B' d' w5 hsl' hon' hrow'
      have nr5 := HR.out.append (F := [s.1, s.2]) ((Only.refl _ _).alloc _) hsl' hon' (fun j hj => by rw [World.size_alloc]; exact hrow' j hj)
      clear hsl' hon' hrow' SRC HSL b0 b1 bs
      rw [HLE.out] at nr5
      have hlen : (ends l s).length = m + 2 := by have := nr5.sl.len; rwa [ints_len] at this
      have hd5 := nr5.sl.le
      have hd6 := nr5.sl.capLe
      unfold maxLen at hd6
      obtain ⟨g, off, hB⟩ : ∃ g off, B' = some ⟨g, off, none⟩ := by
        rcases nr5.sl.2 with ⟨_, h2, _⟩ | ⟨g, off, cur, h1, _⟩
        · omega
        · exact ⟨g, off, h1⟩
      subst hB
      obtain ⟨N, hN⟩ : ∃ N, N = m + 2 := ⟨_, rfl⟩
      rw [← hN] at nr5 hlen hd5 ⊢
      have hgw : w.heap.size ≤ g := nr5.lo g ⟨_, rfl, rfl⟩
      have NR5 := Lib.hid nr5
      have HLN := Lib.hid hlen
      have HNN := Lib.hid (show N = 2 * n + 2 by have := HKN.out; omega)
      clear nr5 hlen hN
      have hN66 : N ≤ 66 := by have := HNN.out; omega
      clear HR HB HKN HLE HM hd6 hk hm64 dc hc HLN H HN hcm hnc
      go_wp2
      go_loopw [7] (fun iv wr => ∃ (i : Nat) (E : List Int), i ≤ N ∧ iv = .int .i64 i ∧ NRow w wr (some ⟨g, off, none⟩) N d' E ∧ Pre i E ∧ (∀ z, z ∈ E ↔ z ∈ ends l s)) (fun iv _ => N - (intOf iv).toNat)
      case atStart => exact ⟨0, _, by omega, rfl, NR5.out, pre_start _, fun z => Iff.rfl⟩
      case round =>
        clear NR5
        obtain ⟨i, E, hi, rfl, hr, hpre, hmem⟩ := hrel
        have HR := Lib.hid hr; clear hr
        have HP := Lib.hid hpre; clear hpre
        have HM := Lib.hid hmem; clear hmem
        have HLE := Lib.hid (show E.length = N by have := HR.out.sl.len; rwa [ints_len] at this)
        by_cases hc : i < N
        · have dc : decide ((i : Int) < (N : Int)) = true := by simpa using hc
          go_wp2
          obtain ⟨wo, rfl⟩ : ∃ wo : World, wo = wr := ⟨_, rfl⟩
          go_loopw [8] (fun kv wr => ∃ (k : Nat) (E : List Int), i + 1 ≤ k ∧ k ≤ N ∧ kv = .int .i64 k ∧ NRow w wr (some ⟨g, off, none⟩) N d' E ∧ Pre i E ∧ Low i k E ∧ (∀ z, z ∈ E ↔ z ∈ ends l s)) (fun kv _ => N - (intOf kv).toNat)
          case atStart => exact ⟨i + 1, E, Nat.le_refl _, by omega, by go_num, HR.out, HP.out, low_start E i, HM.out⟩
          case round =>
            clear HR HP HM HLE dc
            obtain ⟨k, E, hik, hk, rfl, hr, hpre, hlow, hmem⟩ := hrel
            have HR := Lib.hid hr; clear hr
            have HP := Lib.hid hpre; clear hpre
            have HM := Lib.hid hmem; clear hmem
            have HLW := Lib.hid hlow; clear hlow
            have hle : E.length = N := by have := HR.out.sl.len; rwa [ints_len] at this
            by_cases hkN : k < N
            · have dk : decide ((k : Int) < (N : Int)) = true := by simpa using hkN
              obtain ⟨x, hx⟩ : ∃ x, E[i]? = some x := ⟨_, List.getElem?_eq_getElem (by omega)⟩
              obtain ⟨y, hy⟩ : ∃ y, E[k]? = some y := ⟨_, List.getElem?_eq_getElem (by omega)⟩
              have HX := Lib.hid hx
              have HY := Lib.hid hy
              have c0 : wr.cell? ⟨g, off + i, none⟩ = some (.int .i64 x) := nrow_cell HR.out.sl hx
              have c1 : wr.cell? ⟨g, off + k, none⟩ = some (.int .i64 y) := nrow_cell HR.out.sl hy
              obtain ⟨cur, hcur⟩ := HR.out.sl.type ⟨_, rfl, rfl⟩
              have gs := lt_of_heap hcur
              have f0 : wr.frozen? ⟨g, off + i, none⟩ = false := blk_frozen hcur _
              have f1 : wr.frozen? ⟨g, off + k, none⟩ = false := blk_frozen hcur _
              have i0' : (0 : Int) ≤ (i : Int) := by omega
              have i1' : (i : Int) < (N : Int) := by omega
              have k0' : (0 : Int) ≤ (k : Int) := by omega
              have k1' : (k : Int) < (N : Int) := by omega
              clear hx hy hcur hle
              go_upto_region 13 with (fail)
              by_cases hyx : y < x
              · have dy : decide (y < x) = true := by simpa using hyx
                have hne : ¬ k = i := by omega
                have hne2 : ¬ i = k := by omega
                go_quiet (fail)
                go_wp2
                go_roundw
                case rel => exact ⟨k + 1, swap E i k x y, by omega, by omega, by go_num, HR.out.swap (by repeat (first | exact Only.refl _ _ | refine Only.drewN ?_ _ | refine Only.drew ?_)) hc hkN x y, swap_pre HX.out HY.out (by omega) HP.out, swap_low HX.out HY.out (by omega) hyx HLW.out, fun z => (swap_mem HX.out HY.out (by omega) z).trans (HM.out z)⟩
                case measure => simp [intOf]; omega
              · have dy : decide (y < x) = false := by simpa using hyx
                go_quiet (fail)
                go_wp2
                go_roundw
                case rel => exact ⟨k + 1, E, by omega, by omega, by go_num, ⟨HR.out.sl.only (F := fun _ => False) (by repeat (first | exact Only.refl _ _ | refine Only.drewN ?_ _ | refine Only.drew ?_)) (fun _ _ x => x), HR.out.lo, by repeat (first | exact HR.out.q | refine Only.drewN ?_ _ | refine Only.drew ?_)⟩, HP.out, low_next HX.out HY.out hyx HLW.out, HM.out⟩
                case measure => simp [intOf]; omega
            · have dk : decide ((k : Int) < (N : Int)) = false := by simpa using hkN
              have hkk : k = E.length := by omega
              have HPN := Lib.hid (pre_next HP.out (by rw [← hkk]; exact HLW.out))
              clear hkk
              go_wp2
              go_roundw
              case rel => exact ⟨i + 1, E, by omega, by go_num, HR.out, HPN.out, HM.out⟩
              case measure => simp [intOf]; omega
        · have dc : decide ((i : Int) < (N : Int)) = false := by simpa using hc
          have hie : i = E.length := by have := HLE.out; omega
          have HRS := Lib.hid (pre_rising (E := E) (by rw [← hie]; exact HP.out))
          clear hie
          go_wp2
          go_ret
          rw [← HNN.out]
          exact ⟨E, _, _, rfl, HLE.out, HRS.out, HM.out, HR.out⟩
end Go.Proofs.Ythhaaakabpnbnaa
