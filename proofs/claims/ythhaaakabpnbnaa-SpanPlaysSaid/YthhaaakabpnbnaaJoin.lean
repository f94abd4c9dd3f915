/-
  A set of three parts. No conditions.
-/
import Derived.Test.YthhaaakabpnbnaaTouch
import Derived.Laws.CopyOwn
import Derived.Laws.MakeOwn
import Derived.Laws.OwnMore
namespace Go.Proofs.Ythhaaakabpnbnaa
open Go.RowKit
set_option linter.unusedVariables false
set_option linter.unusedSimpArgs false

def flat (l : List Sp) : List Value := l.flatMap spCells
theorem flat_len : ∀ l : List Sp, (flat l).length = l.length * 2
  | [] => rfl
  | x :: l => by
    have := flat_len l
    simp only [flat, List.flatMap_cons, List.length_append, List.length_cons] at this ⊢
    rw [this]
    simp [spCells]
    omega
theorem flat_at : ∀ {l : List Sp} {i : Nat} {x : Sp}, l[i]? = some x → (flat l)[i * 2]? = some (.int .i64 x.1) ∧ (flat l)[i * 2 + 1]? = some (.int .i64 x.2)
  | [], i, x, h => by simp at h
  | y :: l, 0, x, h => by
    simp only [List.getElem?_cons_zero, Option.some.injEq] at h
    subst h
    exact ⟨rfl, rfl⟩
  | y :: l, i + 1, x, h => by
    have := flat_at (l := l) (i := i) h
    rw [show (i + 1) * 2 = i * 2 + 1 + 1 by omega]
    exact this
theorem flat_get : ∀ {l : List Sp} {j : Nat} {v : Value}, (flat l)[j]? = some v → ∃ x, l[j / 2]? = some x ∧ v = (if j % 2 = 0 then .int .i64 x.1 else .int .i64 x.2)
  | [], j, v, h => by simp [flat] at h
  | y :: l, 0, v, h => ⟨y, rfl, by simpa [flat, spCells] using h.symm⟩
  | y :: l, 1, v, h => ⟨y, rfl, by simpa [flat, spCells] using h.symm⟩
  | y :: l, j + 2, v, h => by
    obtain ⟨x, h1, h2⟩ := flat_get (l := l) (j := j) (v := v) h
    refine ⟨x, ?_, ?_⟩
    · rw [show (j + 2) / 2 = j / 2 + 1 by omega]; exact h1
    · rw [show (j + 2) % 2 = j % 2 by omega]; exact h2
theorem flat_one (l : List Sp) : ∀ v ∈ flat l, v.oneCell' = true := by
  intro v hv
  simp only [flat, List.mem_flatMap] at hv
  obtain ⟨x, _, hx⟩ := hv
  simp only [spCells, List.mem_cons, List.not_mem_nil, or_false] at hx
  rcases hx with rfl | rfl <;> rfl
theorem flat_app (a b : List Sp) : flat (a ++ b) = flat a ++ flat b := by simp [flat]
theorem Sps.of_block {w : World} {g : Nat} {l : List Sp} {t : TypeId} (hg : w.heap[g]? = some (.cells (flat l).toArray t (0, 0))) {n : Nat} (hn : l.length = n) (hc : n ≤ maxLen) : Sps w (some ⟨g, 0, none⟩) n n l :=
  ⟨hn, Nat.le_refl _, hc, fun e => (nomatch e), fun _ => ⟨g, 0, rfl, lt_of_heap hg, fun i x hx => by
    obtain ⟨h1, h2⟩ := flat_at hx
    rw [Nat.zero_add]
    exact ⟨(blk_cell hg (i * 2)).trans (by simpa using h1), (blk_cell hg (i * 2 + 1)).trans (by simpa using h2)⟩⟩⟩
theorem size28 : (Try.prog.info? 28).map (·.size) = some 2 := by kernel_rfl
theorem copy_run {w : World} {g off dLen dCap : Nat} {cur : List Value} {t : TypeId} (hg : w.heap[g]? = some (.cells cur.toArray t (0, 0))) {A : Option Addr} {n c : Nat} {l : List Sp} (h : Sps w A n c l) (D : Option Addr) (hD : 0 < n → D = some ⟨g, off, none⟩) (hn : n ≤ dLen) (hfit : off + n * 2 ≤ cur.length) (ty : TypeId) :
    ∃ w1, (Builtin.copy_ #[22, 22] ty #[.slice D dLen dCap, .slice A n c]).run Try.prog w = .ok (.int .i64 (n : Int)) w1 ∧ w1.heap[g]? = some (.cells (splice cur off (flat l)).toArray t (0, 0)) ∧ Only (· = g) w w1 := by
  have hmin : Nat.min n dLen = n := Nat.min_eq_left hn
  have hlt := lt_of_heap hg
  by_cases h0 : n = 0
  · subst h0
    have hl0 : l = [] := List.eq_nil_of_length_eq_zero h.len
    subst hl0
    refine ⟨w, ?_, by rw [hg]; simp [splice, flat], Only.refl _ _⟩
    cases hq : Try.prog.info? 28 with
    | none => have := size28; simp [hq] at this
    | some i =>
      have hl : ∀ (x : Addr), (loadCells x 0).run Try.prog w = .ok #[] w := fun x => by simpa using run_loadCells_list (P := Try.prog) w x [] (by simp)
      cases D <;> cases A <;> simp [Builtin.copy_, run_underlying Try.underlying22, Builtin.lenOf, Builtin.firstCells, sizeOf, typeInfo, hq, hmin, storeCells, hl, goInt]
  · obtain rfl := hD (by omega)
    obtain ⟨b, o, rfl, hb, hcell⟩ := h.src (by omega)
    have hl := run_loadCells_list (P := Try.prog) w ⟨b, o, none⟩ (flat l) (fun j v hv => by
      obtain ⟨x, h1, h2⟩ := flat_get hv
      have := hcell _ x h1
      rw [Addr.add_lit]
      split at h2
      · rw [show o + j = o + j / 2 * 2 by omega, h2]; exact this.1
      · rw [show o + j = o + j / 2 * 2 + 1 by omega, h2]; exact this.2)
    rw [flat_len, h.len] at hl
    have hst := run_storeCells_at (P := Try.prog) g off t (flat l) 0 cur.toArray w hg (by rw [flat_len, h.len]; simp; omega) (flat_one l)
    refine ⟨w.setRow g (cur.toArray.toList.take (off + 0) ++ flat l ++ cur.toArray.toList.drop (off + 0 + (flat l).length)).toArray, ?_, ?_, ?_⟩
    · cases hq : Try.prog.info? 28 with
      | none => have := size28; simp [hq] at this
      | some i =>
        have hi : i.size = 2 := by have := size28; simpa [hq] using this
        simp [Builtin.copy_, run_underlying Try.underlying22, Builtin.lenOf, Builtin.firstCells, sizeOf, typeInfo, hq, hmin, hi, hl, hst, goInt]
    · rw [setRow_heap _ _ _ _ _ _ hg]
      simp [splice]
    · exact ⟨rfl, rfl, rfl, by simp, fun k _ hk => setRow_other _ _ _ _ hk⟩
theorem Only.over {S T : Nat → Prop} {a b c : World} (h : Only S a b) (k : Only T b c) (hT : ∀ i, i < a.heap.size → T i → S i) : Only S a c :=
  ⟨k.os.trans h.os, k.tape.trans h.tape, k.output.trans h.output, Nat.le_trans h.size k.size, fun i hi hs => (k.block i (Nat.lt_of_lt_of_le hi h.size) (fun q => hs (hT i hi q))).trans (h.block i hi hs)⟩
/-- A row of the call's own. -/
def Own (w : World) (A : Option Addr) : Prop := ∀ k, RowOf A k → w.heap.size ≤ k
set_option maxHeartbeats 1000000 in
theorem join_big {w : World} {A B C : Option Addr} {n1 n2 n3 c1 c2 c3 : Nat} (h100 : n1 + n2 + n3 ≤ 1000) (h : 32 < n1 + n2 + n3) :
    Calls Try.prog 26 #[.slice A n1 c1, .slice B n2 c2, .slice C n3 c3] w fun e w' => e = .returned (.tuple #[.slice none 0 0, .int .i64 14]) ∧ Quiet w w' := by
  have dd : decide ((32 : Int) < (n1 : Int) + (n2 : Int) + (n3 : Int)) = true := by simp; omega
  go_enter Try.func26, Try.ntmps26
  go_wp2
  go_ret2
  exact ⟨rfl, Only.refl _ _⟩
set_option maxHeartbeats 1000000 in
theorem join3 {w : World} {A B C : Option Addr} {n1 n2 n3 c1 c2 c3 : Nat} {a b c : List Sp} (ha : Sps w A n1 c1 a) (hb : Sps w B n2 c2 b) (hc : Sps w C n3 c3 c) (h : n1 + n2 + n3 ≤ 32) (k1 : n2 + n3 ≠ 0) (k2 : n3 ≠ 0) :
    Calls Try.prog 26 #[.slice A n1 c1, .slice B n2 c2, .slice C n3 c3] w fun e w' => ∃ D, e = .returned (.tuple #[.slice D (n1 + n2 + n3) (n1 + n2 + n3), .int .i64 0]) ∧ Sps w' D (n1 + n2 + n3) (n1 + n2 + n3) (a ++ b ++ c) ∧ Own w D ∧ Quiet w w' := by
  obtain ⟨i0, hi0, hz0, hz1, hz2⟩ := info_parts Try.row28
  obtain ⟨N, hN⟩ : ∃ N, N = n1 + n2 + n3 := ⟨_, rfl⟩
  obtain ⟨K, hK⟩ : ∃ K, K = n1 + n2 := ⟨_, rfl⟩
  have mk := run_make (P := Try.prog) w 22 28 i0 (.agg #[.int .i64 0, .int .i64 0]) Try.underlying22 hi0 hz0 .i64 .i64 N N (by omega) (by omega) (by rw [hz2]; omega) (by omega)
  rw [hz1] at mk
  simp only [Int.toNat_natCast] at mk
  obtain ⟨Z, hZ⟩ : ∃ Z : List Value, Z = (madeCells (Value.agg #[.int .i64 0, .int .i64 0]).cells (N * 2)).toList := ⟨_, rfl⟩
  have hZl : Z.length = N * 2 := by rw [hZ, Array.length_toList, size_madeCells]
  have hZa : madeCells (Value.agg #[.int .i64 0, .int .i64 0]).cells (N * 2) = Z.toArray := by rw [hZ]
  rw [hZa] at mk
  have g0 := blk_new w (.cells Z.toArray 28)
  have q0 : Quiet w (w.alloc (.cells Z.toArray 28)) := (Only.refl _ _).alloc _
  obtain ⟨w1, r1, g1, o1⟩ := copy_run (dLen := N) (dCap := N) g0 (ha.quiet q0) (some ⟨w.heap.size, 0, none⟩) (fun _ => rfl) (by omega) (by omega) 3
  have q1 : Quiet w w1 := q0.over o1 fun i hi e => by omega
  obtain ⟨w2, r2, g2, o2⟩ := copy_run (off := n1 * 2) (dLen := N - n1) (dCap := N - n1) g1 (hb.quiet q1) (some ⟨w.heap.size, n1 * 2, none⟩) (fun _ => rfl) (by omega) (by rw [length_splice _ _ _ (by rw [flat_len, ha.len]; omega)]; omega) 3
  have q2 : Quiet w w2 := q1.over o2 fun i hi e => by omega
  obtain ⟨w3, r3, g3, o3⟩ := copy_run (off := K * 2) (dLen := N - K) (dCap := N - K) g2 (hc.quiet q2) (some ⟨w.heap.size, K * 2, none⟩) (fun _ => rfl) (by omega) (by rw [length_splice _ _ _ (by rw [length_splice _ _ _ (by rw [flat_len, ha.len]; omega), flat_len, hb.len]; omega), length_splice _ _ _ (by rw [flat_len, ha.len]; omega)]; omega) 3
  have q3 : Quiet w w3 := q2.over o3 fun i hi e => by omega
  have g4 : w3.heap[w.heap.size]? = some (.cells (flat (a ++ b ++ c)).toArray 28 (0, 0)) := by
    have := splice_splice_splice Z (flat a) (flat b) (flat c) (n1 * 2) (n2 * 2) (by rw [flat_len, ha.len]) (by rw [flat_len, hb.len]) (by rw [flat_len, hc.len]; omega)
    rw [flat_app, flat_app, List.append_assoc, ← this, show n1 * 2 + n2 * 2 = K * 2 by omega]
    exact g3
  have hlen : (a ++ b ++ c).length = n1 + n2 + n3 := by rw [List.length_append, List.length_append, ha.len, hb.len, hc.len]
  have FIN := Lib.hid (show Sps w3 (some ⟨w.heap.size, 0, none⟩) (n1 + n2 + n3) (n1 + n2 + n3) (a ++ b ++ c) ∧ Own w (some ⟨w.heap.size, 0, none⟩) ∧ Quiet w w3 from ⟨Sps.of_block g4 hlen (by unfold maxLen; omega), fun k ⟨x, hx, hk⟩ => by obtain rfl := Option.some.inj hx; have hk : k = w.heap.size := (by first | exact hk | exact hk.symm); omega, q3⟩)
  clear g4 hlen q3 q2 q1 q0 g3 g2 g1 g0 o1 o2 o3 ha hb hc hZl hZa hZ hi0 hz0 hz1 hz2
  have e1 : (n1 : Int) + (n2 : Int) = (K : Int) := by omega
  have e2 : (K : Int) + (n3 : Int) = (N : Int) := by omega
  have dd : decide ((32 : Int) < (N : Int)) = false := by simp; omega
  have t1 : ¬ N = n1 := by omega
  have t2 : ¬ N = K := by omega
  have t3 : n1 ≤ N := by omega
  have t4 : K ≤ N := by omega
  have HKK := Lib.hid hK; clear hK
  have HNN := Lib.hid hN; clear hN
  go_enter Try.func26, Try.ntmps26
  go_wp2
  go_ret2
  exact ⟨_, by first | rfl | (have := HNN.out; subst this; rfl), by first | exact FIN.out | (have F := FIN.out; rw [List.append_assoc] at F; exact F)⟩
set_option maxHeartbeats 1000000 in
theorem join2 {w : World} {A B C : Option Addr} {n1 n2 n3 c1 c2 c3 : Nat} {a b c : List Sp} (ha : Sps w A n1 c1 a) (hb : Sps w B n2 c2 b) (hc : Sps w C n3 c3 c) (h : n1 + n2 + n3 ≤ 32) (k1 : n2 + n3 ≠ 0) (k2 : n3 = 0) :
    Calls Try.prog 26 #[.slice A n1 c1, .slice B n2 c2, .slice C n3 c3] w fun e w' => ∃ D, e = .returned (.tuple #[.slice D (n1 + n2 + n3) (n1 + n2 + n3), .int .i64 0]) ∧ Sps w' D (n1 + n2 + n3) (n1 + n2 + n3) (a ++ b ++ c) ∧ Own w D ∧ Quiet w w' := by
  obtain ⟨i0, hi0, hz0, hz1, hz2⟩ := info_parts Try.row28
  obtain ⟨N, hN⟩ : ∃ N, N = n1 + n2 + n3 := ⟨_, rfl⟩
  obtain ⟨K, hK⟩ : ∃ K, K = n1 + n2 := ⟨_, rfl⟩
  have mk := run_make (P := Try.prog) w 22 28 i0 (.agg #[.int .i64 0, .int .i64 0]) Try.underlying22 hi0 hz0 .i64 .i64 N N (by omega) (by omega) (by rw [hz2]; omega) (by omega)
  rw [hz1] at mk
  simp only [Int.toNat_natCast] at mk
  obtain ⟨Z, hZ⟩ : ∃ Z : List Value, Z = (madeCells (Value.agg #[.int .i64 0, .int .i64 0]).cells (N * 2)).toList := ⟨_, rfl⟩
  have hZl : Z.length = N * 2 := by rw [hZ, Array.length_toList, size_madeCells]
  have hZa : madeCells (Value.agg #[.int .i64 0, .int .i64 0]).cells (N * 2) = Z.toArray := by rw [hZ]
  rw [hZa] at mk
  have g0 := blk_new w (.cells Z.toArray 28)
  have q0 : Quiet w (w.alloc (.cells Z.toArray 28)) := (Only.refl _ _).alloc _
  obtain ⟨w1, r1, g1, o1⟩ := copy_run (dLen := N) (dCap := N) g0 (ha.quiet q0) (some ⟨w.heap.size, 0, none⟩) (fun _ => rfl) (by omega) (by omega) 3
  have q1 : Quiet w w1 := q0.over o1 fun i hi e => by omega
  obtain ⟨w2, r2, g2, o2⟩ := copy_run (off := n1 * 2) (dLen := N - n1) (dCap := N - n1) g1 (hb.quiet q1) (some ⟨w.heap.size, n1 * 2, none⟩) (fun _ => rfl) (by omega) (by rw [length_splice _ _ _ (by rw [flat_len, ha.len]; omega)]; omega) 3
  have q2 : Quiet w w2 := q1.over o2 fun i hi e => by omega
  obtain ⟨w3, r3, g3, o3⟩ := copy_run (off := K * 2) (dLen := 0) (dCap := 0) g2 (hc.quiet q2) (some ⟨w.heap.size, 0, none⟩) (fun q => absurd q (by omega)) (by omega) (by rw [length_splice _ _ _ (by rw [length_splice _ _ _ (by rw [flat_len, ha.len]; omega), flat_len, hb.len]; omega), length_splice _ _ _ (by rw [flat_len, ha.len]; omega)]; omega) 3
  have q3 : Quiet w w3 := q2.over o3 fun i hi e => by omega
  have g4 : w3.heap[w.heap.size]? = some (.cells (flat (a ++ b ++ c)).toArray 28 (0, 0)) := by
    have := splice_splice_splice Z (flat a) (flat b) (flat c) (n1 * 2) (n2 * 2) (by rw [flat_len, ha.len]) (by rw [flat_len, hb.len]) (by rw [flat_len, hc.len]; omega)
    rw [flat_app, flat_app, List.append_assoc, ← this, show n1 * 2 + n2 * 2 = K * 2 by omega]
    exact g3
  have hlen : (a ++ b ++ c).length = n1 + n2 + n3 := by rw [List.length_append, List.length_append, ha.len, hb.len, hc.len]
  have FIN := Lib.hid (show Sps w3 (some ⟨w.heap.size, 0, none⟩) (n1 + n2 + n3) (n1 + n2 + n3) (a ++ b ++ c) ∧ Own w (some ⟨w.heap.size, 0, none⟩) ∧ Quiet w w3 from ⟨Sps.of_block g4 hlen (by unfold maxLen; omega), fun k ⟨x, hx, hk⟩ => by obtain rfl := Option.some.inj hx; have hk : k = w.heap.size := (by first | exact hk | exact hk.symm); omega, q3⟩)
  clear g4 hlen q3 q2 q1 q0 g3 g2 g1 g0 o1 o2 o3 ha hb hc hZl hZa hZ hi0 hz0 hz1 hz2
  subst k2
  have e1 : (n1 : Int) + (n2 : Int) = (N : Int) := by omega
  have dd : decide ((32 : Int) < (N : Int)) = false := by simp; omega
  have t1 : ¬ N = n1 := by omega
  have t3 : n1 ≤ N := by omega
  clear hK
  have HNN := Lib.hid hN; clear hN
  go_enter Try.func26, Try.ntmps26
  go_wp2
  go_ret2
  exact ⟨_, by first | rfl | (have := HNN.out; subst this; rfl), by first | exact FIN.out | (have F := FIN.out; rw [List.append_assoc] at F; exact F)⟩
set_option maxHeartbeats 1000000 in
theorem join1 {w : World} {A B C : Option Addr} {n1 n2 n3 c1 c2 c3 : Nat} {a b c : List Sp} (ha : Sps w A n1 c1 a) (hb : Sps w B n2 c2 b) (hc : Sps w C n3 c3 c) (h : n1 + n2 + n3 ≤ 32) (k1 : n2 + n3 = 0) :
    Calls Try.prog 26 #[.slice A n1 c1, .slice B n2 c2, .slice C n3 c3] w fun e w' => ∃ D, e = .returned (.tuple #[.slice D (n1 + n2 + n3) (n1 + n2 + n3), .int .i64 0]) ∧ Sps w' D (n1 + n2 + n3) (n1 + n2 + n3) (a ++ b ++ c) ∧ Own w D ∧ Quiet w w' := by
  obtain ⟨i0, hi0, hz0, hz1, hz2⟩ := info_parts Try.row28
  obtain ⟨N, hN⟩ : ∃ N, N = n1 + n2 + n3 := ⟨_, rfl⟩
  obtain ⟨K, hK⟩ : ∃ K, K = n1 + n2 := ⟨_, rfl⟩
  have mk := run_make (P := Try.prog) w 22 28 i0 (.agg #[.int .i64 0, .int .i64 0]) Try.underlying22 hi0 hz0 .i64 .i64 N N (by omega) (by omega) (by rw [hz2]; omega) (by omega)
  rw [hz1] at mk
  simp only [Int.toNat_natCast] at mk
  obtain ⟨Z, hZ⟩ : ∃ Z : List Value, Z = (madeCells (Value.agg #[.int .i64 0, .int .i64 0]).cells (N * 2)).toList := ⟨_, rfl⟩
  have hZl : Z.length = N * 2 := by rw [hZ, Array.length_toList, size_madeCells]
  have hZa : madeCells (Value.agg #[.int .i64 0, .int .i64 0]).cells (N * 2) = Z.toArray := by rw [hZ]
  rw [hZa] at mk
  have g0 := blk_new w (.cells Z.toArray 28)
  have q0 : Quiet w (w.alloc (.cells Z.toArray 28)) := (Only.refl _ _).alloc _
  obtain ⟨w1, r1, g1, o1⟩ := copy_run (dLen := N) (dCap := N) g0 (ha.quiet q0) (some ⟨w.heap.size, 0, none⟩) (fun _ => rfl) (by omega) (by omega) 3
  have q1 : Quiet w w1 := q0.over o1 fun i hi e => by omega
  obtain ⟨w2, r2, g2, o2⟩ := copy_run (off := n1 * 2) (dLen := 0) (dCap := 0) g1 (hb.quiet q1) (some ⟨w.heap.size, 0, none⟩) (fun q => absurd q (by omega)) (by omega) (by rw [length_splice _ _ _ (by rw [flat_len, ha.len]; omega)]; omega) 3
  have q2 : Quiet w w2 := q1.over o2 fun i hi e => by omega
  obtain ⟨w3, r3, g3, o3⟩ := copy_run (off := K * 2) (dLen := 0) (dCap := 0) g2 (hc.quiet q2) (some ⟨w.heap.size, 0, none⟩) (fun q => absurd q (by omega)) (by omega) (by rw [length_splice _ _ _ (by rw [length_splice _ _ _ (by rw [flat_len, ha.len]; omega), flat_len, hb.len]; omega), length_splice _ _ _ (by rw [flat_len, ha.len]; omega)]; omega) 3
  have q3 : Quiet w w3 := q2.over o3 fun i hi e => by omega
  have g4 : w3.heap[w.heap.size]? = some (.cells (flat (a ++ b ++ c)).toArray 28 (0, 0)) := by
    have := splice_splice_splice Z (flat a) (flat b) (flat c) (n1 * 2) (n2 * 2) (by rw [flat_len, ha.len]) (by rw [flat_len, hb.len]) (by rw [flat_len, hc.len]; omega)
    rw [flat_app, flat_app, List.append_assoc, ← this, show n1 * 2 + n2 * 2 = K * 2 by omega]
    exact g3
  have hlen : (a ++ b ++ c).length = n1 + n2 + n3 := by rw [List.length_append, List.length_append, ha.len, hb.len, hc.len]
  have FIN := Lib.hid (show Sps w3 (some ⟨w.heap.size, 0, none⟩) (n1 + n2 + n3) (n1 + n2 + n3) (a ++ b ++ c) ∧ Own w (some ⟨w.heap.size, 0, none⟩) ∧ Quiet w w3 from ⟨Sps.of_block g4 hlen (by unfold maxLen; omega), fun k ⟨x, hx, hk⟩ => by obtain rfl := Option.some.inj hx; have hk : k = w.heap.size := (by first | exact hk | exact hk.symm); omega, q3⟩)
  clear g4 hlen q3 q2 q1 q0 g3 g2 g1 g0 o1 o2 o3 ha hb hc hZl hZa hZ hi0 hz0 hz1 hz2
  obtain rfl : n2 = 0 := by omega
  obtain rfl : n3 = 0 := by omega
  obtain rfl : n1 = N := by omega
  clear hK
  have HNN := Lib.hid hN; clear hN
  have dd : decide ((32 : Int) < (n1 : Int)) = false := by simp; omega
  go_enter Try.func26, Try.ntmps26
  go_wp2
  go_ret2
  exact ⟨_, by first | rfl | (have := HNN.out; subst this; rfl), by first | exact FIN.out | (have F := FIN.out; rw [List.append_assoc] at F; exact F)⟩
theorem join_ok {w : World} {A B C : Option Addr} {n1 n2 n3 c1 c2 c3 : Nat} {a b c : List Sp} (ha : Sps w A n1 c1 a) (hb : Sps w B n2 c2 b) (hc : Sps w C n3 c3 c) (h : n1 + n2 + n3 ≤ 32) :
    Calls Try.prog 26 #[.slice A n1 c1, .slice B n2 c2, .slice C n3 c3] w fun e w' => ∃ D, e = .returned (.tuple #[.slice D (n1 + n2 + n3) (n1 + n2 + n3), .int .i64 0]) ∧ Sps w' D (n1 + n2 + n3) (n1 + n2 + n3) (a ++ b ++ c) ∧ Own w D ∧ Quiet w w' := by
  by_cases k1 : n2 + n3 = 0
  · exact join1 ha hb hc h k1
  · by_cases k2 : n3 = 0
    · exact join2 ha hb hc h k1 k2
    · exact join3 ha hb hc h k1 k2
end Go.Proofs.Ythhaaakabpnbnaa
