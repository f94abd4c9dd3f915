/-
  What the document's own Do (gatepostref20) does, for every call. No conditions.
-/
import Derived.Test.YtnkiibdmpldkmaaRef
import Derived.Deep.QuietTactic
import Derived.BigQuiet
namespace Go.Proofs.Ytnkiibdmpldkmaa
open Go.RowKit

theorem RowAt.cell {w : World} {g i : Nat} {xs : List Int} {x : Int} (h : RowAt w g xs) (hi : xs[i]? = some x) : w.cell? ⟨g, i, none⟩ = some (.int .i64 x) := by
  obtain ⟨cur, h1, h2⟩ := h
  exact (blk_cell h1 i).trans (h2 i x hi)
theorem RowAt.frozen {w : World} {g : Nat} {xs : List Int} (h : RowAt w g xs) (i : Nat) : w.frozen? ⟨g, i, none⟩ = false := by
  obtain ⟨cur, h1, _⟩ := h
  exact blk_frozen h1 i
theorem RowAt.lt {w : World} {g : Nat} {xs : List Int} (h : RowAt w g xs) : g < w.heap.size := let ⟨_, h1, _⟩ := h; lt_of_heap h1
theorem RowAt.drewN {w : World} {g n : Nat} {xs : List Int} (h : RowAt w g xs) : RowAt (w.drewN n) g xs := h
theorem RowAt.drew {w : World} {g : Nat} {xs : List Int} (h : RowAt w g xs) : RowAt w.drew g xs := h
theorem RowAt.far {w : World} {g : Nat} {xs : List Int} (h : RowAt w g xs) {p : Addr} (hp : g ≠ p.block) (u : Value) : RowAt (w.setCell p u) g xs := let ⟨cur, h1, h2⟩ := h; ⟨cur, blk_far h1 hp u, h2⟩
theorem RowAt.set_ {w : World} {g i : Nat} {xs : List Int} (h : RowAt w g xs) (x : Int) (hi : i < xs.length) : RowAt (w.setCell ⟨g, i, none⟩ (.int .i64 x)) g (xs.set i x) := by
  obtain ⟨cur, h1, h2⟩ := h
  refine ⟨_, blk_set h1 i _, fun j y hy => ?_⟩
  have hc : i < cur.size := by
    have := h2 i _ (List.getElem?_eq_getElem hi)
    exact (Array.getElem?_eq_some_iff.1 this).1
  by_cases hij : i = j
  · subst hij
    rw [List.getElem?_set_self hi] at hy
    obtain rfl := Option.some.inj hy
    rw [Array.getElem?_setIfInBounds_self_of_lt hc]
  · rw [List.getElem?_set_ne hij] at hy
    rw [Array.getElem?_setIfInBounds_ne hij]
    exact h2 j y hy
theorem RowAt.only {F : Nat → Prop} {w w' : World} {g : Nat} {xs : List Int} (h : RowAt w g xs) (ho : Only F w w') (hg : ¬ F g) : RowAt w' g xs := let ⟨cur, h1, h2⟩ := h; ⟨cur, ho.keep h1 hg, h2⟩

set_option maxRecDepth 100000 in
set_option maxHeartbeats 2000000 in
theorem rdo_0_0 (q nn c1 g1 g2 g3 tn : Nat) (lim inn pin n : Int) (L I P : List Int) (w : World)
    (hq : w.heap[q]? = some (.cells #[.slice (some ⟨g1, 0, none⟩) nn c1, .slice (some ⟨g2, 0, none⟩) nn nn, .slice (some ⟨g3, 0, none⟩) nn nn] 46 (0, 0)))
    (h1 : RowAt w g1 L) (h2 : RowAt w g2 I) (h3 : RowAt w g3 P) (n12 : g1 ≠ g2) (n13 : g1 ≠ g3) (n23 : g2 ≠ g3)
    (e1 : L[tn]? = some lim) (e2 : I[tn]? = some inn) (e3 : P[tn]? = some pin) (ht : tn < nn) (hnn : nn ≤ 16) (hn : 0 ≤ n)
    (f1 : 0 ≤ inn) (f2 : inn ≤ lim) (f3 : lim ≤ 1099511627776) (f4 : 0 ≤ pin) (f5 : pin ≤ 1125899906842624)
    (k0 : lim - inn < n) :
    Calls Try.prog 18 #[.pointer (some ⟨q, 0, none⟩), .int .i64 0, .int .i64 (tn : Int), .int .i64 n] w fun e w' => e = .returned (.int .i64 18) ∧ RowAt w' g2 I ∧ RowAt w' g3 P ∧ Only (fun k => k = g2 ∨ k = g3) w w' := by
  have p0 := blk_cell hq 0
  have p1 := blk_cell hq 1
  have p2 := blk_cell hq 2
  have r1 := h1.cell e1
  have r2 := h2.cell e2
  have r3 := h3.cell e3
  have z2 := h2.frozen tn
  have z3 := h3.frozen tn
  have l0 := lt_of_heap hq
  have l1 := h1.lt
  have l2 := h2.lt
  have l3 := h3.lt
  have i2 : tn < I.length := (List.getElem?_eq_some_iff.1 e2).1
  have i3 : tn < P.length := (List.getElem?_eq_some_iff.1 e3).1
  have m1 : ¬ q = g2 := blk_ne hq (h2.choose_spec.1) (by decide)
  have m2 : ¬ q = g3 := blk_ne hq (h3.choose_spec.1) (by decide)
  simp only [List.getElem?_toArray, List.getElem?_cons_zero, List.getElem?_cons_succ] at p0 p1 p2
  have H2 := Lib.hid h2; clear h2
  have H3 := Lib.hid h3; clear h3
  have HQ := Lib.hid hq; clear hq
  have E1 := Lib.hid e1; clear e1
  have E2 := Lib.hid e2; clear e2
  have E3 := Lib.hid e3; clear e3
  have n21 : ¬ g2 = g1 := fun h => n12 h.symm
  have n31 : ¬ g3 = g1 := fun h => n13 h.symm
  have n32 : ¬ g3 = g2 := fun h => n23 h.symm
  have t0 : (0 : Int) ≤ (tn : Int) := by omega
  have t1 : (tn : Int) < (nn : Int) := by omega
  have d0 : decide ((tn : Int) < 0) = false := by simp
  have d1 : decide ((nn : Int) ≤ (tn : Int)) = false := by simp; omega
  have d2 : decide (n < 0) = false := by simp; omega
  have q5 : decide (lim - inn < n) = true := by simp; omega
  go_enter Try.func18, Try.ntmps18
  go_wp2
  go_quiet (fail)
  go_wp2
  go_ret
  refine ⟨rfl, ?_, ?_, (by repeat (first | exact Only.refl _ _ | refine Only.drewN ?_ _ | refine Only.drew ?_ | refine Only.alloc ?_ _ | refine Only.setCell ?_ (fun _ => by first | exact .inl rfl | exact .inr rfl) _))⟩
  · with_reducible repeat (first | exact H2.out | refine RowAt.drewN ?_ | refine RowAt.drew ?_ | refine RowAt.set_ ?_ _ i2 | (refine RowAt.far ?_ ?_ _; rotate_left; exact n23))
  · with_reducible repeat (first | exact H3.out | refine RowAt.drewN ?_ | refine RowAt.drew ?_ | refine RowAt.set_ ?_ _ i3 | (refine RowAt.far ?_ ?_ _; rotate_left; exact n32))
set_option maxRecDepth 100000 in
set_option maxHeartbeats 2000000 in
theorem rdo_0_1 (q nn c1 g1 g2 g3 tn : Nat) (lim inn pin n : Int) (L I P : List Int) (w : World)
    (hq : w.heap[q]? = some (.cells #[.slice (some ⟨g1, 0, none⟩) nn c1, .slice (some ⟨g2, 0, none⟩) nn nn, .slice (some ⟨g3, 0, none⟩) nn nn] 46 (0, 0)))
    (h1 : RowAt w g1 L) (h2 : RowAt w g2 I) (h3 : RowAt w g3 P) (n12 : g1 ≠ g2) (n13 : g1 ≠ g3) (n23 : g2 ≠ g3)
    (e1 : L[tn]? = some lim) (e2 : I[tn]? = some inn) (e3 : P[tn]? = some pin) (ht : tn < nn) (hnn : nn ≤ 16) (hn : 0 ≤ n)
    (f1 : 0 ≤ inn) (f2 : inn ≤ lim) (f3 : lim ≤ 1099511627776) (f4 : 0 ≤ pin) (f5 : pin ≤ 1125899906842624)
    (k0 : ¬ lim - inn < n) :
    Calls Try.prog 18 #[.pointer (some ⟨q, 0, none⟩), .int .i64 0, .int .i64 (tn : Int), .int .i64 n] w fun e w' => e = .returned (.int .i64 0) ∧ RowAt w' g2 (I.set tn (inn + n)) ∧ RowAt w' g3 P ∧ Only (fun k => k = g2 ∨ k = g3) w w' := by
  have p0 := blk_cell hq 0
  have p1 := blk_cell hq 1
  have p2 := blk_cell hq 2
  have r1 := h1.cell e1
  have r2 := h2.cell e2
  have r3 := h3.cell e3
  have z2 := h2.frozen tn
  have z3 := h3.frozen tn
  have l0 := lt_of_heap hq
  have l1 := h1.lt
  have l2 := h2.lt
  have l3 := h3.lt
  have i2 : tn < I.length := (List.getElem?_eq_some_iff.1 e2).1
  have i3 : tn < P.length := (List.getElem?_eq_some_iff.1 e3).1
  have m1 : ¬ q = g2 := blk_ne hq (h2.choose_spec.1) (by decide)
  have m2 : ¬ q = g3 := blk_ne hq (h3.choose_spec.1) (by decide)
  simp only [List.getElem?_toArray, List.getElem?_cons_zero, List.getElem?_cons_succ] at p0 p1 p2
  have H2 := Lib.hid h2; clear h2
  have H3 := Lib.hid h3; clear h3
  have HQ := Lib.hid hq; clear hq
  have E1 := Lib.hid e1; clear e1
  have E2 := Lib.hid e2; clear e2
  have E3 := Lib.hid e3; clear e3
  have n21 : ¬ g2 = g1 := fun h => n12 h.symm
  have n31 : ¬ g3 = g1 := fun h => n13 h.symm
  have n32 : ¬ g3 = g2 := fun h => n23 h.symm
  have t0 : (0 : Int) ≤ (tn : Int) := by omega
  have t1 : (tn : Int) < (nn : Int) := by omega
  have d0 : decide ((tn : Int) < 0) = false := by simp
  have d1 : decide ((nn : Int) ≤ (tn : Int)) = false := by simp; omega
  have d2 : decide (n < 0) = false := by simp; omega
  have q5 : decide (lim - inn < n) = false := by simp; omega
  go_enter Try.func18, Try.ntmps18
  go_wp2
  go_quiet (fail)
  go_wp2
  go_region
  go_wp2
  go_ret
  refine ⟨rfl, ?_, ?_, (by repeat (first | exact Only.refl _ _ | refine Only.drewN ?_ _ | refine Only.drew ?_ | refine Only.alloc ?_ _ | refine Only.setCell ?_ (fun _ => by first | exact .inl rfl | exact .inr rfl) _))⟩
  · with_reducible repeat (first | exact H2.out | refine RowAt.drewN ?_ | refine RowAt.drew ?_ | refine RowAt.set_ ?_ _ i2 | (refine RowAt.far ?_ ?_ _; rotate_left; exact n23))
  · with_reducible repeat (first | exact H3.out | refine RowAt.drewN ?_ | refine RowAt.drew ?_ | refine RowAt.set_ ?_ _ i3 | (refine RowAt.far ?_ ?_ _; rotate_left; exact n32))
set_option maxRecDepth 100000 in
set_option maxHeartbeats 2000000 in
theorem rdo_1_2 (q nn c1 g1 g2 g3 tn : Nat) (lim inn pin n : Int) (L I P : List Int) (w : World)
    (hq : w.heap[q]? = some (.cells #[.slice (some ⟨g1, 0, none⟩) nn c1, .slice (some ⟨g2, 0, none⟩) nn nn, .slice (some ⟨g3, 0, none⟩) nn nn] 46 (0, 0)))
    (h1 : RowAt w g1 L) (h2 : RowAt w g2 I) (h3 : RowAt w g3 P) (n12 : g1 ≠ g2) (n13 : g1 ≠ g3) (n23 : g2 ≠ g3)
    (e1 : L[tn]? = some lim) (e2 : I[tn]? = some inn) (e3 : P[tn]? = some pin) (ht : tn < nn) (hnn : nn ≤ 16) (hn : 0 ≤ n)
    (f1 : 0 ≤ inn) (f2 : inn ≤ lim) (f3 : lim ≤ 1099511627776) (f4 : 0 ≤ pin) (f5 : pin ≤ 1125899906842624)
    (k0 : inn < n) :
    Calls Try.prog 18 #[.pointer (some ⟨q, 0, none⟩), .int .i64 1, .int .i64 (tn : Int), .int .i64 n] w fun e w' => e = .returned (.int .i64 12) ∧ RowAt w' g2 I ∧ RowAt w' g3 P ∧ Only (fun k => k = g2 ∨ k = g3) w w' := by
  have p0 := blk_cell hq 0
  have p1 := blk_cell hq 1
  have p2 := blk_cell hq 2
  have r1 := h1.cell e1
  have r2 := h2.cell e2
  have r3 := h3.cell e3
  have z2 := h2.frozen tn
  have z3 := h3.frozen tn
  have l0 := lt_of_heap hq
  have l1 := h1.lt
  have l2 := h2.lt
  have l3 := h3.lt
  have i2 : tn < I.length := (List.getElem?_eq_some_iff.1 e2).1
  have i3 : tn < P.length := (List.getElem?_eq_some_iff.1 e3).1
  have m1 : ¬ q = g2 := blk_ne hq (h2.choose_spec.1) (by decide)
  have m2 : ¬ q = g3 := blk_ne hq (h3.choose_spec.1) (by decide)
  simp only [List.getElem?_toArray, List.getElem?_cons_zero, List.getElem?_cons_succ] at p0 p1 p2
  have H2 := Lib.hid h2; clear h2
  have H3 := Lib.hid h3; clear h3
  have HQ := Lib.hid hq; clear hq
  have E1 := Lib.hid e1; clear e1
  have E2 := Lib.hid e2; clear e2
  have E3 := Lib.hid e3; clear e3
  have n21 : ¬ g2 = g1 := fun h => n12 h.symm
  have n31 : ¬ g3 = g1 := fun h => n13 h.symm
  have n32 : ¬ g3 = g2 := fun h => n23 h.symm
  have t0 : (0 : Int) ≤ (tn : Int) := by omega
  have t1 : (tn : Int) < (nn : Int) := by omega
  have d0 : decide ((tn : Int) < 0) = false := by simp
  have d1 : decide ((nn : Int) ≤ (tn : Int)) = false := by simp; omega
  have d2 : decide (n < 0) = false := by simp; omega
  have q5 : decide (inn < n) = true := by simp; omega
  go_enter Try.func18, Try.ntmps18
  go_wp2
  go_quiet (fail)
  go_wp2
  go_ret
  refine ⟨rfl, ?_, ?_, (by repeat (first | exact Only.refl _ _ | refine Only.drewN ?_ _ | refine Only.drew ?_ | refine Only.alloc ?_ _ | refine Only.setCell ?_ (fun _ => by first | exact .inl rfl | exact .inr rfl) _))⟩
  · with_reducible repeat (first | exact H2.out | refine RowAt.drewN ?_ | refine RowAt.drew ?_ | refine RowAt.set_ ?_ _ i2 | (refine RowAt.far ?_ ?_ _; rotate_left; exact n23))
  · with_reducible repeat (first | exact H3.out | refine RowAt.drewN ?_ | refine RowAt.drew ?_ | refine RowAt.set_ ?_ _ i3 | (refine RowAt.far ?_ ?_ _; rotate_left; exact n32))
set_option maxRecDepth 100000 in
set_option maxHeartbeats 2000000 in
theorem rdo_1_3 (q nn c1 g1 g2 g3 tn : Nat) (lim inn pin n : Int) (L I P : List Int) (w : World)
    (hq : w.heap[q]? = some (.cells #[.slice (some ⟨g1, 0, none⟩) nn c1, .slice (some ⟨g2, 0, none⟩) nn nn, .slice (some ⟨g3, 0, none⟩) nn nn] 46 (0, 0)))
    (h1 : RowAt w g1 L) (h2 : RowAt w g2 I) (h3 : RowAt w g3 P) (n12 : g1 ≠ g2) (n13 : g1 ≠ g3) (n23 : g2 ≠ g3)
    (e1 : L[tn]? = some lim) (e2 : I[tn]? = some inn) (e3 : P[tn]? = some pin) (ht : tn < nn) (hnn : nn ≤ 16) (hn : 0 ≤ n)
    (f1 : 0 ≤ inn) (f2 : inn ≤ lim) (f3 : lim ≤ 1099511627776) (f4 : 0 ≤ pin) (f5 : pin ≤ 1125899906842624)
    (k0 : ¬ inn < n) (k1 : 1125899906842624 - pin < n) :
    Calls Try.prog 18 #[.pointer (some ⟨q, 0, none⟩), .int .i64 1, .int .i64 (tn : Int), .int .i64 n] w fun e w' => e = .returned (.int .i64 3) ∧ RowAt w' g2 I ∧ RowAt w' g3 P ∧ Only (fun k => k = g2 ∨ k = g3) w w' := by
  have p0 := blk_cell hq 0
  have p1 := blk_cell hq 1
  have p2 := blk_cell hq 2
  have r1 := h1.cell e1
  have r2 := h2.cell e2
  have r3 := h3.cell e3
  have z2 := h2.frozen tn
  have z3 := h3.frozen tn
  have l0 := lt_of_heap hq
  have l1 := h1.lt
  have l2 := h2.lt
  have l3 := h3.lt
  have i2 : tn < I.length := (List.getElem?_eq_some_iff.1 e2).1
  have i3 : tn < P.length := (List.getElem?_eq_some_iff.1 e3).1
  have m1 : ¬ q = g2 := blk_ne hq (h2.choose_spec.1) (by decide)
  have m2 : ¬ q = g3 := blk_ne hq (h3.choose_spec.1) (by decide)
  simp only [List.getElem?_toArray, List.getElem?_cons_zero, List.getElem?_cons_succ] at p0 p1 p2
  have H2 := Lib.hid h2; clear h2
  have H3 := Lib.hid h3; clear h3
  have HQ := Lib.hid hq; clear hq
  have E1 := Lib.hid e1; clear e1
  have E2 := Lib.hid e2; clear e2
  have E3 := Lib.hid e3; clear e3
  have n21 : ¬ g2 = g1 := fun h => n12 h.symm
  have n31 : ¬ g3 = g1 := fun h => n13 h.symm
  have n32 : ¬ g3 = g2 := fun h => n23 h.symm
  have t0 : (0 : Int) ≤ (tn : Int) := by omega
  have t1 : (tn : Int) < (nn : Int) := by omega
  have d0 : decide ((tn : Int) < 0) = false := by simp
  have d1 : decide ((nn : Int) ≤ (tn : Int)) = false := by simp; omega
  have d2 : decide (n < 0) = false := by simp; omega
  have q5 : decide (inn < n) = false := by simp; omega
  have q6 : decide (1125899906842624 - pin < n) = true := by simp; omega
  go_enter Try.func18, Try.ntmps18
  go_wp2
  go_quiet (fail)
  go_wp2
  go_ret
  refine ⟨rfl, ?_, ?_, (by repeat (first | exact Only.refl _ _ | refine Only.drewN ?_ _ | refine Only.drew ?_ | refine Only.alloc ?_ _ | refine Only.setCell ?_ (fun _ => by first | exact .inl rfl | exact .inr rfl) _))⟩
  · with_reducible repeat (first | exact H2.out | refine RowAt.drewN ?_ | refine RowAt.drew ?_ | refine RowAt.set_ ?_ _ i2 | (refine RowAt.far ?_ ?_ _; rotate_left; exact n23))
  · with_reducible repeat (first | exact H3.out | refine RowAt.drewN ?_ | refine RowAt.drew ?_ | refine RowAt.set_ ?_ _ i3 | (refine RowAt.far ?_ ?_ _; rotate_left; exact n32))
set_option maxRecDepth 100000 in
set_option maxHeartbeats 2000000 in
theorem rdo_1_4 (q nn c1 g1 g2 g3 tn : Nat) (lim inn pin n : Int) (L I P : List Int) (w : World)
    (hq : w.heap[q]? = some (.cells #[.slice (some ⟨g1, 0, none⟩) nn c1, .slice (some ⟨g2, 0, none⟩) nn nn, .slice (some ⟨g3, 0, none⟩) nn nn] 46 (0, 0)))
    (h1 : RowAt w g1 L) (h2 : RowAt w g2 I) (h3 : RowAt w g3 P) (n12 : g1 ≠ g2) (n13 : g1 ≠ g3) (n23 : g2 ≠ g3)
    (e1 : L[tn]? = some lim) (e2 : I[tn]? = some inn) (e3 : P[tn]? = some pin) (ht : tn < nn) (hnn : nn ≤ 16) (hn : 0 ≤ n)
    (f1 : 0 ≤ inn) (f2 : inn ≤ lim) (f3 : lim ≤ 1099511627776) (f4 : 0 ≤ pin) (f5 : pin ≤ 1125899906842624)
    (k0 : ¬ inn < n) (k1 : ¬ 1125899906842624 - pin < n) :
    Calls Try.prog 18 #[.pointer (some ⟨q, 0, none⟩), .int .i64 1, .int .i64 (tn : Int), .int .i64 n] w fun e w' => e = .returned (.int .i64 0) ∧ RowAt w' g2 (I.set tn (inn - n)) ∧ RowAt w' g3 (P.set tn (pin + n)) ∧ Only (fun k => k = g2 ∨ k = g3) w w' := by
  have p0 := blk_cell hq 0
  have p1 := blk_cell hq 1
  have p2 := blk_cell hq 2
  have r1 := h1.cell e1
  have r2 := h2.cell e2
  have r3 := h3.cell e3
  have z2 := h2.frozen tn
  have z3 := h3.frozen tn
  have l0 := lt_of_heap hq
  have l1 := h1.lt
  have l2 := h2.lt
  have l3 := h3.lt
  have i2 : tn < I.length := (List.getElem?_eq_some_iff.1 e2).1
  have i3 : tn < P.length := (List.getElem?_eq_some_iff.1 e3).1
  have m1 : ¬ q = g2 := blk_ne hq (h2.choose_spec.1) (by decide)
  have m2 : ¬ q = g3 := blk_ne hq (h3.choose_spec.1) (by decide)
  simp only [List.getElem?_toArray, List.getElem?_cons_zero, List.getElem?_cons_succ] at p0 p1 p2
  have H2 := Lib.hid h2; clear h2
  have H3 := Lib.hid h3; clear h3
  have HQ := Lib.hid hq; clear hq
  have E1 := Lib.hid e1; clear e1
  have E2 := Lib.hid e2; clear e2
  have E3 := Lib.hid e3; clear e3
  have n21 : ¬ g2 = g1 := fun h => n12 h.symm
  have n31 : ¬ g3 = g1 := fun h => n13 h.symm
  have n32 : ¬ g3 = g2 := fun h => n23 h.symm
  have t0 : (0 : Int) ≤ (tn : Int) := by omega
  have t1 : (tn : Int) < (nn : Int) := by omega
  have d0 : decide ((tn : Int) < 0) = false := by simp
  have d1 : decide ((nn : Int) ≤ (tn : Int)) = false := by simp; omega
  have d2 : decide (n < 0) = false := by simp; omega
  have q5 : decide (inn < n) = false := by simp; omega
  have q6 : decide (1125899906842624 - pin < n) = false := by simp; omega
  go_enter Try.func18, Try.ntmps18
  go_wp2
  go_quiet (fail)
  go_wp2
  go_region
  go_wp2
  go_region
  go_wp2
  go_ret
  refine ⟨rfl, ?_, ?_, (by repeat (first | exact Only.refl _ _ | refine Only.drewN ?_ _ | refine Only.drew ?_ | refine Only.alloc ?_ _ | refine Only.setCell ?_ (fun _ => by first | exact .inl rfl | exact .inr rfl) _))⟩
  · with_reducible repeat (first | exact H2.out | refine RowAt.drewN ?_ | refine RowAt.drew ?_ | refine RowAt.set_ ?_ _ i2 | (refine RowAt.far ?_ ?_ _; rotate_left; exact n23))
  · with_reducible repeat (first | exact H3.out | refine RowAt.drewN ?_ | refine RowAt.drew ?_ | refine RowAt.set_ ?_ _ i3 | (refine RowAt.far ?_ ?_ _; rotate_left; exact n32))
set_option maxRecDepth 100000 in
set_option maxHeartbeats 2000000 in
theorem rdo_2_5 (q nn c1 g1 g2 g3 tn : Nat) (lim inn pin n : Int) (L I P : List Int) (w : World)
    (hq : w.heap[q]? = some (.cells #[.slice (some ⟨g1, 0, none⟩) nn c1, .slice (some ⟨g2, 0, none⟩) nn nn, .slice (some ⟨g3, 0, none⟩) nn nn] 46 (0, 0)))
    (h1 : RowAt w g1 L) (h2 : RowAt w g2 I) (h3 : RowAt w g3 P) (n12 : g1 ≠ g2) (n13 : g1 ≠ g3) (n23 : g2 ≠ g3)
    (e1 : L[tn]? = some lim) (e2 : I[tn]? = some inn) (e3 : P[tn]? = some pin) (ht : tn < nn) (hnn : nn ≤ 16) (hn : 0 ≤ n)
    (f1 : 0 ≤ inn) (f2 : inn ≤ lim) (f3 : lim ≤ 1099511627776) (f4 : 0 ≤ pin) (f5 : pin ≤ 1125899906842624)
    (k0 : inn < n) :
    Calls Try.prog 18 #[.pointer (some ⟨q, 0, none⟩), .int .i64 2, .int .i64 (tn : Int), .int .i64 n] w fun e w' => e = .returned (.int .i64 12) ∧ RowAt w' g2 I ∧ RowAt w' g3 P ∧ Only (fun k => k = g2 ∨ k = g3) w w' := by
  have p0 := blk_cell hq 0
  have p1 := blk_cell hq 1
  have p2 := blk_cell hq 2
  have r1 := h1.cell e1
  have r2 := h2.cell e2
  have r3 := h3.cell e3
  have z2 := h2.frozen tn
  have z3 := h3.frozen tn
  have l0 := lt_of_heap hq
  have l1 := h1.lt
  have l2 := h2.lt
  have l3 := h3.lt
  have i2 : tn < I.length := (List.getElem?_eq_some_iff.1 e2).1
  have i3 : tn < P.length := (List.getElem?_eq_some_iff.1 e3).1
  have m1 : ¬ q = g2 := blk_ne hq (h2.choose_spec.1) (by decide)
  have m2 : ¬ q = g3 := blk_ne hq (h3.choose_spec.1) (by decide)
  simp only [List.getElem?_toArray, List.getElem?_cons_zero, List.getElem?_cons_succ] at p0 p1 p2
  have H2 := Lib.hid h2; clear h2
  have H3 := Lib.hid h3; clear h3
  have HQ := Lib.hid hq; clear hq
  have E1 := Lib.hid e1; clear e1
  have E2 := Lib.hid e2; clear e2
  have E3 := Lib.hid e3; clear e3
  have n21 : ¬ g2 = g1 := fun h => n12 h.symm
  have n31 : ¬ g3 = g1 := fun h => n13 h.symm
  have n32 : ¬ g3 = g2 := fun h => n23 h.symm
  have t0 : (0 : Int) ≤ (tn : Int) := by omega
  have t1 : (tn : Int) < (nn : Int) := by omega
  have d0 : decide ((tn : Int) < 0) = false := by simp
  have d1 : decide ((nn : Int) ≤ (tn : Int)) = false := by simp; omega
  have d2 : decide (n < 0) = false := by simp; omega
  have q5 : decide (inn < n) = true := by simp; omega
  go_enter Try.func18, Try.ntmps18
  go_wp2
  go_quiet (fail)
  go_wp2
  go_ret
  refine ⟨rfl, ?_, ?_, (by repeat (first | exact Only.refl _ _ | refine Only.drewN ?_ _ | refine Only.drew ?_ | refine Only.alloc ?_ _ | refine Only.setCell ?_ (fun _ => by first | exact .inl rfl | exact .inr rfl) _))⟩
  · with_reducible repeat (first | exact H2.out | refine RowAt.drewN ?_ | refine RowAt.drew ?_ | refine RowAt.set_ ?_ _ i2 | (refine RowAt.far ?_ ?_ _; rotate_left; exact n23))
  · with_reducible repeat (first | exact H3.out | refine RowAt.drewN ?_ | refine RowAt.drew ?_ | refine RowAt.set_ ?_ _ i3 | (refine RowAt.far ?_ ?_ _; rotate_left; exact n32))
set_option maxRecDepth 100000 in
set_option maxHeartbeats 2000000 in
theorem rdo_2_6 (q nn c1 g1 g2 g3 tn : Nat) (lim inn pin n : Int) (L I P : List Int) (w : World)
    (hq : w.heap[q]? = some (.cells #[.slice (some ⟨g1, 0, none⟩) nn c1, .slice (some ⟨g2, 0, none⟩) nn nn, .slice (some ⟨g3, 0, none⟩) nn nn] 46 (0, 0)))
    (h1 : RowAt w g1 L) (h2 : RowAt w g2 I) (h3 : RowAt w g3 P) (n12 : g1 ≠ g2) (n13 : g1 ≠ g3) (n23 : g2 ≠ g3)
    (e1 : L[tn]? = some lim) (e2 : I[tn]? = some inn) (e3 : P[tn]? = some pin) (ht : tn < nn) (hnn : nn ≤ 16) (hn : 0 ≤ n)
    (f1 : 0 ≤ inn) (f2 : inn ≤ lim) (f3 : lim ≤ 1099511627776) (f4 : 0 ≤ pin) (f5 : pin ≤ 1125899906842624)
    (k0 : ¬ inn < n) :
    Calls Try.prog 18 #[.pointer (some ⟨q, 0, none⟩), .int .i64 2, .int .i64 (tn : Int), .int .i64 n] w fun e w' => e = .returned (.int .i64 0) ∧ RowAt w' g2 (I.set tn (inn - n)) ∧ RowAt w' g3 P ∧ Only (fun k => k = g2 ∨ k = g3) w w' := by
  have p0 := blk_cell hq 0
  have p1 := blk_cell hq 1
  have p2 := blk_cell hq 2
  have r1 := h1.cell e1
  have r2 := h2.cell e2
  have r3 := h3.cell e3
  have z2 := h2.frozen tn
  have z3 := h3.frozen tn
  have l0 := lt_of_heap hq
  have l1 := h1.lt
  have l2 := h2.lt
  have l3 := h3.lt
  have i2 : tn < I.length := (List.getElem?_eq_some_iff.1 e2).1
  have i3 : tn < P.length := (List.getElem?_eq_some_iff.1 e3).1
  have m1 : ¬ q = g2 := blk_ne hq (h2.choose_spec.1) (by decide)
  have m2 : ¬ q = g3 := blk_ne hq (h3.choose_spec.1) (by decide)
  simp only [List.getElem?_toArray, List.getElem?_cons_zero, List.getElem?_cons_succ] at p0 p1 p2
  have H2 := Lib.hid h2; clear h2
  have H3 := Lib.hid h3; clear h3
  have HQ := Lib.hid hq; clear hq
  have E1 := Lib.hid e1; clear e1
  have E2 := Lib.hid e2; clear e2
  have E3 := Lib.hid e3; clear e3
  have n21 : ¬ g2 = g1 := fun h => n12 h.symm
  have n31 : ¬ g3 = g1 := fun h => n13 h.symm
  have n32 : ¬ g3 = g2 := fun h => n23 h.symm
  have t0 : (0 : Int) ≤ (tn : Int) := by omega
  have t1 : (tn : Int) < (nn : Int) := by omega
  have d0 : decide ((tn : Int) < 0) = false := by simp
  have d1 : decide ((nn : Int) ≤ (tn : Int)) = false := by simp; omega
  have d2 : decide (n < 0) = false := by simp; omega
  have q5 : decide (inn < n) = false := by simp; omega
  go_enter Try.func18, Try.ntmps18
  go_wp2
  go_quiet (fail)
  go_wp2
  go_region
  go_wp2
  go_ret
  refine ⟨rfl, ?_, ?_, (by repeat (first | exact Only.refl _ _ | refine Only.drewN ?_ _ | refine Only.drew ?_ | refine Only.alloc ?_ _ | refine Only.setCell ?_ (fun _ => by first | exact .inl rfl | exact .inr rfl) _))⟩
  · with_reducible repeat (first | exact H2.out | refine RowAt.drewN ?_ | refine RowAt.drew ?_ | refine RowAt.set_ ?_ _ i2 | (refine RowAt.far ?_ ?_ _; rotate_left; exact n23))
  · with_reducible repeat (first | exact H3.out | refine RowAt.drewN ?_ | refine RowAt.drew ?_ | refine RowAt.set_ ?_ _ i3 | (refine RowAt.far ?_ ?_ _; rotate_left; exact n32))
set_option maxRecDepth 100000 in
set_option maxHeartbeats 2000000 in
theorem rdo_3_7 (q nn c1 g1 g2 g3 tn : Nat) (lim inn pin n : Int) (L I P : List Int) (w : World)
    (hq : w.heap[q]? = some (.cells #[.slice (some ⟨g1, 0, none⟩) nn c1, .slice (some ⟨g2, 0, none⟩) nn nn, .slice (some ⟨g3, 0, none⟩) nn nn] 46 (0, 0)))
    (h1 : RowAt w g1 L) (h2 : RowAt w g2 I) (h3 : RowAt w g3 P) (n12 : g1 ≠ g2) (n13 : g1 ≠ g3) (n23 : g2 ≠ g3)
    (e1 : L[tn]? = some lim) (e2 : I[tn]? = some inn) (e3 : P[tn]? = some pin) (ht : tn < nn) (hnn : nn ≤ 16) (hn : 0 ≤ n)
    (f1 : 0 ≤ inn) (f2 : inn ≤ lim) (f3 : lim ≤ 1099511627776) (f4 : 0 ≤ pin) (f5 : pin ≤ 1125899906842624)
    (k0 : pin < n) :
    Calls Try.prog 18 #[.pointer (some ⟨q, 0, none⟩), .int .i64 3, .int .i64 (tn : Int), .int .i64 n] w fun e w' => e = .returned (.int .i64 12) ∧ RowAt w' g2 I ∧ RowAt w' g3 P ∧ Only (fun k => k = g2 ∨ k = g3) w w' := by
  have p0 := blk_cell hq 0
  have p1 := blk_cell hq 1
  have p2 := blk_cell hq 2
  have r1 := h1.cell e1
  have r2 := h2.cell e2
  have r3 := h3.cell e3
  have z2 := h2.frozen tn
  have z3 := h3.frozen tn
  have l0 := lt_of_heap hq
  have l1 := h1.lt
  have l2 := h2.lt
  have l3 := h3.lt
  have i2 : tn < I.length := (List.getElem?_eq_some_iff.1 e2).1
  have i3 : tn < P.length := (List.getElem?_eq_some_iff.1 e3).1
  have m1 : ¬ q = g2 := blk_ne hq (h2.choose_spec.1) (by decide)
  have m2 : ¬ q = g3 := blk_ne hq (h3.choose_spec.1) (by decide)
  simp only [List.getElem?_toArray, List.getElem?_cons_zero, List.getElem?_cons_succ] at p0 p1 p2
  have H2 := Lib.hid h2; clear h2
  have H3 := Lib.hid h3; clear h3
  have HQ := Lib.hid hq; clear hq
  have E1 := Lib.hid e1; clear e1
  have E2 := Lib.hid e2; clear e2
  have E3 := Lib.hid e3; clear e3
  have n21 : ¬ g2 = g1 := fun h => n12 h.symm
  have n31 : ¬ g3 = g1 := fun h => n13 h.symm
  have n32 : ¬ g3 = g2 := fun h => n23 h.symm
  have t0 : (0 : Int) ≤ (tn : Int) := by omega
  have t1 : (tn : Int) < (nn : Int) := by omega
  have d0 : decide ((tn : Int) < 0) = false := by simp
  have d1 : decide ((nn : Int) ≤ (tn : Int)) = false := by simp; omega
  have d2 : decide (n < 0) = false := by simp; omega
  have q5 : decide (pin < n) = true := by simp; omega
  go_enter Try.func18, Try.ntmps18
  go_wp2
  go_quiet (fail)
  go_wp2
  go_ret
  refine ⟨rfl, ?_, ?_, (by repeat (first | exact Only.refl _ _ | refine Only.drewN ?_ _ | refine Only.drew ?_ | refine Only.alloc ?_ _ | refine Only.setCell ?_ (fun _ => by first | exact .inl rfl | exact .inr rfl) _))⟩
  · with_reducible repeat (first | exact H2.out | refine RowAt.drewN ?_ | refine RowAt.drew ?_ | refine RowAt.set_ ?_ _ i2 | (refine RowAt.far ?_ ?_ _; rotate_left; exact n23))
  · with_reducible repeat (first | exact H3.out | refine RowAt.drewN ?_ | refine RowAt.drew ?_ | refine RowAt.set_ ?_ _ i3 | (refine RowAt.far ?_ ?_ _; rotate_left; exact n32))
set_option maxRecDepth 100000 in
set_option maxHeartbeats 2000000 in
theorem rdo_3_8 (q nn c1 g1 g2 g3 tn : Nat) (lim inn pin n : Int) (L I P : List Int) (w : World)
    (hq : w.heap[q]? = some (.cells #[.slice (some ⟨g1, 0, none⟩) nn c1, .slice (some ⟨g2, 0, none⟩) nn nn, .slice (some ⟨g3, 0, none⟩) nn nn] 46 (0, 0)))
    (h1 : RowAt w g1 L) (h2 : RowAt w g2 I) (h3 : RowAt w g3 P) (n12 : g1 ≠ g2) (n13 : g1 ≠ g3) (n23 : g2 ≠ g3)
    (e1 : L[tn]? = some lim) (e2 : I[tn]? = some inn) (e3 : P[tn]? = some pin) (ht : tn < nn) (hnn : nn ≤ 16) (hn : 0 ≤ n)
    (f1 : 0 ≤ inn) (f2 : inn ≤ lim) (f3 : lim ≤ 1099511627776) (f4 : 0 ≤ pin) (f5 : pin ≤ 1125899906842624)
    (k0 : ¬ pin < n) :
    Calls Try.prog 18 #[.pointer (some ⟨q, 0, none⟩), .int .i64 3, .int .i64 (tn : Int), .int .i64 n] w fun e w' => e = .returned (.int .i64 0) ∧ RowAt w' g2 I ∧ RowAt w' g3 (P.set tn (pin - n)) ∧ Only (fun k => k = g2 ∨ k = g3) w w' := by
  have p0 := blk_cell hq 0
  have p1 := blk_cell hq 1
  have p2 := blk_cell hq 2
  have r1 := h1.cell e1
  have r2 := h2.cell e2
  have r3 := h3.cell e3
  have z2 := h2.frozen tn
  have z3 := h3.frozen tn
  have l0 := lt_of_heap hq
  have l1 := h1.lt
  have l2 := h2.lt
  have l3 := h3.lt
  have i2 : tn < I.length := (List.getElem?_eq_some_iff.1 e2).1
  have i3 : tn < P.length := (List.getElem?_eq_some_iff.1 e3).1
  have m1 : ¬ q = g2 := blk_ne hq (h2.choose_spec.1) (by decide)
  have m2 : ¬ q = g3 := blk_ne hq (h3.choose_spec.1) (by decide)
  simp only [List.getElem?_toArray, List.getElem?_cons_zero, List.getElem?_cons_succ] at p0 p1 p2
  have H2 := Lib.hid h2; clear h2
  have H3 := Lib.hid h3; clear h3
  have HQ := Lib.hid hq; clear hq
  have E1 := Lib.hid e1; clear e1
  have E2 := Lib.hid e2; clear e2
  have E3 := Lib.hid e3; clear e3
  have n21 : ¬ g2 = g1 := fun h => n12 h.symm
  have n31 : ¬ g3 = g1 := fun h => n13 h.symm
  have n32 : ¬ g3 = g2 := fun h => n23 h.symm
  have t0 : (0 : Int) ≤ (tn : Int) := by omega
  have t1 : (tn : Int) < (nn : Int) := by omega
  have d0 : decide ((tn : Int) < 0) = false := by simp
  have d1 : decide ((nn : Int) ≤ (tn : Int)) = false := by simp; omega
  have d2 : decide (n < 0) = false := by simp; omega
  have q5 : decide (pin < n) = false := by simp; omega
  go_enter Try.func18, Try.ntmps18
  go_wp2
  go_quiet (fail)
  go_wp2
  go_region
  go_wp2
  go_ret
  refine ⟨rfl, ?_, ?_, (by repeat (first | exact Only.refl _ _ | refine Only.drewN ?_ _ | refine Only.drew ?_ | refine Only.alloc ?_ _ | refine Only.setCell ?_ (fun _ => by first | exact .inl rfl | exact .inr rfl) _))⟩
  · with_reducible repeat (first | exact H2.out | refine RowAt.drewN ?_ | refine RowAt.drew ?_ | refine RowAt.set_ ?_ _ i2 | (refine RowAt.far ?_ ?_ _; rotate_left; exact n23))
  · with_reducible repeat (first | exact H3.out | refine RowAt.drewN ?_ | refine RowAt.drew ?_ | refine RowAt.set_ ?_ _ i3 | (refine RowAt.far ?_ ?_ _; rotate_left; exact n32))
set_option maxRecDepth 100000 in
set_option maxHeartbeats 2000000 in
theorem rdo_bad (q nn c1 g1 g2 g3 : Nat) (K t n : Int) (w : World)
    (hq : w.heap[q]? = some (.cells #[.slice (some ⟨g1, 0, none⟩) nn c1, .slice (some ⟨g2, 0, none⟩) nn nn, .slice (some ⟨g3, 0, none⟩) nn nn] 46 (0, 0))) (hnn : nn ≤ 16)
    (hbad : t < 0 ∨ (0 ≤ t ∧ (nn : Int) ≤ t) ∨ (0 ≤ t ∧ t < (nn : Int) ∧ n < 0)) :
    Calls Try.prog 18 #[.pointer (some ⟨q, 0, none⟩), .int .i64 K, .int .i64 t, .int .i64 n] w fun e w' => e = .returned (.int .i64 2) ∧ Quiet w w' := by
  have p0 := blk_cell hq 0
  simp only [List.getElem?_toArray, List.getElem?_cons_zero] at p0
  have l0 := lt_of_heap hq
  clear hq
  rcases hbad with h | ⟨h1, h2⟩ | ⟨h1, h2, h3⟩
  all_goals
    go_enter Try.func18, Try.ntmps18
    go_wp2
    go_ret
    exact ⟨rfl, Only.refl _ _⟩

theorem set_map {f : Acct → Int} {S : List Acct} {i : Nat} {s : Acct} : (S.set i s).map f = (S.map f).set i (f s) := by rw [List.map_set]
theorem set_same {S : List Acct} {f : Acct → Int} {i : Nat} {s s' : Acct} (hs : S[i]? = some s) (h : f s' = f s) : (S.map f).set i (f s') = S.map f := by
  apply List.ext_getElem?
  intro j
  rw [List.getElem?_set]
  split
  · rename_i hij
    subst hij
    have hl := (List.getElem?_eq_some_iff.1 hs).1
    rw [if_pos (by simpa using hl), List.getElem?_map, hs, h]
    rfl
  · rfl
/-- One account of the document's book turned. -/
theorem RefAt.turn {w w' : World} {q nn c1 g1 g2 g3 : Nat} {S : List Acct} {i : Nat} {s s' : Acct} (h : RefAt w q nn c1 g1 g2 g3 S) (hs : S[i]? = some s) (hl : s'.lim = s.lim)
    (h2 : RowAt w' g2 ((S.map (·.inn)).set i s'.inn)) (h3 : RowAt w' g3 ((S.map (·.pin)).set i s'.pin)) (ho : Only (fun k => k = g2 ∨ k = g3) w w') : RefAt w' q nn c1 g1 g2 g3 (S.set i s') := by
  obtain ⟨cur2, b2, _⟩ := h.inns
  obtain ⟨cur3, b3, _⟩ := h.pins
  refine ⟨ho.keep h.ptr (fun hk => ?_), by simpa using h.len, ?_, ?_, ?_, h.n12, h.n13, h.n23⟩
  · rcases hk with rfl | rfl
    · exact blk_ne h.ptr b2 (by decide) rfl
    · exact blk_ne h.ptr b3 (by decide) rfl
  · rw [set_map, set_same hs hl]
    exact h.lims.only ho (fun hk => hk.elim h.n12 h.n13)
  · rw [set_map]; exact h2
  · rw [set_map]; exact h3
theorem set_self {xs : List Int} {i : Nat} {x : Int} (h : xs[i]? = some x) : xs.set i x = xs := by
  apply List.ext_getElem?
  intro j
  rw [List.getElem?_set]
  split
  · rename_i hij
    subst hij
    rw [if_pos (List.getElem?_eq_some_iff.1 h).1, h]
  · rfl
/-- The document's Do. -/
theorem rdo_any {q nn c1 g1 g2 g3 : Nat} {S : List Acct} (K t n : Int) (hK : 0 ≤ K ∧ K ≤ 3) {w : World} (h : RefAt w q nn c1 g1 g2 g3 S) (hf : ∀ s ∈ S, Fine s) (hnn : nn ≤ 16) :
    Calls Try.prog 18 #[.pointer (some ⟨q, 0, none⟩), .int .i64 K, .int .i64 t, .int .i64 n] w fun e w' => e = .returned (.int .i64 (act K S t n).1) ∧ RefAt w' q nn c1 g1 g2 g3 (act K S t n).2 ∧ Only (fun k => k = g2 ∨ k = g3) w w' := by
  by_cases hb : t < 0 ∨ (0 ≤ t ∧ (nn : Int) ≤ t) ∨ (0 ≤ t ∧ t < (nn : Int) ∧ n < 0)
  · have E : act K S t n = (2, S) := by
      unfold act
      by_cases hc : t < 0 ∨ n < 0
      · rw [if_pos hc]
      · rw [if_neg hc]
        have : S[t.toNat]? = none := by rw [List.getElem?_eq_none_iff, h.len]; omega
        rw [this]
    refine (rdo_bad q nn c1 g1 g2 g3 K t n w h.ptr hnn hb).mono fun e w' ⟨he, ho⟩ => ?_
    rw [E]
    exact ⟨he, ⟨ho.keep h.ptr (fun x => x), h.len, h.lims.only ho (fun x => x), h.inns.only ho (fun x => x), h.pins.only ho (fun x => x), h.n12, h.n13, h.n23⟩, ho.mono (fun _ _ x => x.elim)⟩
  · obtain ⟨tn, rfl⟩ : ∃ tn : Nat, t = (tn : Int) := ⟨t.toNat, by omega⟩
    have hlt : tn < S.length := by rw [h.len]; omega
    obtain ⟨⟨lim, inn, pin⟩, hs⟩ : ∃ s, S[tn]? = some s := ⟨_, List.getElem?_eq_getElem hlt⟩
    obtain ⟨f1, f2, f3, f4, f5⟩ := hf _ (List.mem_of_getElem? hs)
    simp only [] at f1 f2 f3 f4 f5
    have e1 : (S.map (·.lim))[tn]? = some lim := by rw [List.getElem?_map, hs]; rfl
    have e2 : (S.map (·.inn))[tn]? = some inn := by rw [List.getElem?_map, hs]; rfl
    have e3 : (S.map (·.pin))[tn]? = some pin := by rw [List.getElem?_map, hs]; rfl
    have E : act K S (tn : Int) n = ((one K ⟨lim, inn, pin⟩ n).1, S.set tn (one K ⟨lim, inn, pin⟩ n).2) := by
      unfold act
      rw [if_neg (by omega), Int.toNat_natCast, hs]
    have hn : 0 ≤ n := by omega
    have ht : tn < nn := by omega
    have fin : ∀ {c : Int} {s' : Acct}, one K ⟨lim, inn, pin⟩ n = (c, s') → s'.lim = lim → (Calls Try.prog 18 #[.pointer (some ⟨q, 0, none⟩), .int .i64 K, .int .i64 (tn : Int), .int .i64 n] w fun e w' => e = .returned (.int .i64 c) ∧ RowAt w' g2 ((S.map (·.inn)).set tn s'.inn) ∧ RowAt w' g3 ((S.map (·.pin)).set tn s'.pin) ∧ Only (fun k => k = g2 ∨ k = g3) w w') →
        Calls Try.prog 18 #[.pointer (some ⟨q, 0, none⟩), .int .i64 K, .int .i64 (tn : Int), .int .i64 n] w fun e w' => e = .returned (.int .i64 (act K S (tn : Int) n).1) ∧ RefAt w' q nn c1 g1 g2 g3 (act K S (tn : Int) n).2 ∧ Only (fun k => k = g2 ∨ k = g3) w w' := by
      intro c s' ho hl hc
      refine hc.mono fun e w' ⟨a1, a2, a3, a4⟩ => ?_
      rw [E, ho]
      exact ⟨a1, h.turn hs hl a2 a3 a4, a4⟩
    rcases (show K = 0 ∨ K = 1 ∨ K = 2 ∨ K = 3 by omega) with rfl | rfl | rfl | rfl
    · by_cases k0 : lim - inn < n
      · refine fin (c := 18) (s' := ⟨lim, inn, pin⟩) (by simp [one, k0]) rfl ?_
        simp only []
        rw [set_self e2]
        rw [set_self e3]
        exact rdo_0_0 q nn c1 g1 g2 g3 tn lim inn pin n _ _ _ w h.ptr h.lims h.inns h.pins h.n12 h.n13 h.n23 e1 e2 e3 ht hnn hn f1 f2 f3 f4 f5 k0
      · refine fin (c := 0) (s' := ⟨lim, inn + n, pin⟩) (by simp [one, k0]) rfl ?_
        simp only []
        rw [set_self e3]
        exact rdo_0_1 q nn c1 g1 g2 g3 tn lim inn pin n _ _ _ w h.ptr h.lims h.inns h.pins h.n12 h.n13 h.n23 e1 e2 e3 ht hnn hn f1 f2 f3 f4 f5 k0
    · by_cases k0 : inn < n
      · refine fin (c := 12) (s' := ⟨lim, inn, pin⟩) (by simp [one, k0]) rfl ?_
        simp only []
        rw [set_self e2]
        rw [set_self e3]
        exact rdo_1_2 q nn c1 g1 g2 g3 tn lim inn pin n _ _ _ w h.ptr h.lims h.inns h.pins h.n12 h.n13 h.n23 e1 e2 e3 ht hnn hn f1 f2 f3 f4 f5 k0
      · by_cases k1 : 1125899906842624 - pin < n
        · refine fin (c := 3) (s' := ⟨lim, inn, pin⟩) (by simp [one, k0, k1]) rfl ?_
          simp only []
          rw [set_self e2]
          rw [set_self e3]
          exact rdo_1_3 q nn c1 g1 g2 g3 tn lim inn pin n _ _ _ w h.ptr h.lims h.inns h.pins h.n12 h.n13 h.n23 e1 e2 e3 ht hnn hn f1 f2 f3 f4 f5 k0 k1
        · refine fin (c := 0) (s' := ⟨lim, inn - n, pin + n⟩) (by simp [one, k0, k1]) rfl ?_
          simp only []
          exact rdo_1_4 q nn c1 g1 g2 g3 tn lim inn pin n _ _ _ w h.ptr h.lims h.inns h.pins h.n12 h.n13 h.n23 e1 e2 e3 ht hnn hn f1 f2 f3 f4 f5 k0 k1
    · by_cases k0 : inn < n
      · refine fin (c := 12) (s' := ⟨lim, inn, pin⟩) (by simp [one, k0]) rfl ?_
        simp only []
        rw [set_self e2]
        rw [set_self e3]
        exact rdo_2_5 q nn c1 g1 g2 g3 tn lim inn pin n _ _ _ w h.ptr h.lims h.inns h.pins h.n12 h.n13 h.n23 e1 e2 e3 ht hnn hn f1 f2 f3 f4 f5 k0
      · refine fin (c := 0) (s' := ⟨lim, inn - n, pin⟩) (by simp [one, k0]) rfl ?_
        simp only []
        rw [set_self e3]
        exact rdo_2_6 q nn c1 g1 g2 g3 tn lim inn pin n _ _ _ w h.ptr h.lims h.inns h.pins h.n12 h.n13 h.n23 e1 e2 e3 ht hnn hn f1 f2 f3 f4 f5 k0
    · by_cases k0 : pin < n
      · refine fin (c := 12) (s' := ⟨lim, inn, pin⟩) (by simp [one, k0]) rfl ?_
        simp only []
        rw [set_self e2]
        rw [set_self e3]
        exact rdo_3_7 q nn c1 g1 g2 g3 tn lim inn pin n _ _ _ w h.ptr h.lims h.inns h.pins h.n12 h.n13 h.n23 e1 e2 e3 ht hnn hn f1 f2 f3 f4 f5 k0
      · refine fin (c := 0) (s' := ⟨lim, inn, pin - n⟩) (by simp [one, k0]) rfl ?_
        simp only []
        rw [set_self e2]
        exact rdo_3_8 q nn c1 g1 g2 g3 tn lim inn pin n _ _ _ w h.ptr h.lims h.inns h.pins h.n12 h.n13 h.n23 e1 e2 e3 ht hnn hn f1 f2 f3 f4 f5 k0
end Go.Proofs.Ytnkiibdmpldkmaa
