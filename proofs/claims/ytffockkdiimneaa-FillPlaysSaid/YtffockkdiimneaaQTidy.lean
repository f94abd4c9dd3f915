/-
  The reference's tidy. No conditions.
-/
import Derived.Test.YtffockkdiimneaaQGets
import Derived.Deep.RegionHeld3
namespace Go.Proofs.Ytffockkdiimneaa
open Go.RowKit
set_option linter.unusedVariables false
set_option linter.unusedSimpArgs false

theorem at_list {α : Type} {l : List α} {i : Nat} {x : α} (h : l[i]? = some x) : l.toArray[i]? = some x := by rw [List.getElem?_toArray]; exact h
theorem qblk_new' (w : World) (o : Obj) {g : Nat} (h : g = w.heap.size) : (w.alloc o).heap[g]? = some o := h ▸ blk_new w o
theorem qblk_drew {w : World} {g : Nat} {x : Option Obj} (h : w.heap[g]? = x) : w.drew.heap[g]? = x := h
theorem qblk_drewN {w : World} {n g : Nat} {x : Option Obj} (h : w.heap[g]? = x) : (w.drewN n).heap[g]? = x := h
theorem own_empty {w : World} {g : Nat} {e : TypeId} {base size : Nat} (h : w.heap[g]? = some (.cells #[] e (0, 0))) (hb : base ≤ g) : w.ownsRow base e size (.slice (some ⟨g, 0, none⟩) 0 0) 0 [] :=
  ⟨by simp, .inr ⟨g, 0, #[], rfl, hb, h, Nat.le_refl _, by unfold maxLen; omega, by simp, by simp⟩⟩
theorem step_append_own {P : Program} (w : World) {ops : Array Oper} {o : Oper} {a : Act} {K : Act → World → Prop} {Q : Exit → Act → World → Prop} {E : Prop} (hgd : o.guard = none) (s x : Operand) (t : TypeId)
    (ho : o.op = .call { callee := .builtin .append, args := #[s, x], argTypes := #[t, t] })
    (base : Nat) (e : TypeId) (i : TypeInfo) (z : Value) (size bytes : Nat) (ht : P.underlying t = some (.slice e)) (hi : P.info? e = some i) (hz : i.zero = some z)
    (hsize : i.size = size) (hby : i.bytes = bytes) (hzs : z.cells.size = size) (hsz : 0 < size)
    (v : Value) (n : Nat) (xs : List Value) (hs : a.eval s = v) (hown : w.ownsRow base e size v n xs)
    (ad : Addr) (m c : Nat) (news : List Value) (hx : a.eval x = .slice (some ad) m c) (hl : news.length = m * size) (hnews : ∀ j u, news[j]? = some u → w.cell? (ad.add j) = some u) (h1 : ∀ u ∈ news, u.oneCell' = true)
    (h63 : n + m ≤ maxLen) (hbytes : (n + m) * bytes ≤ 140737488355328) (hbase : base ≤ w.heap.size)
    (h : ∀ v' w', w'.ownsRow base e size v' (n + m) (xs ++ news) → w.grownBy w' v.ownBlock → K (a.put o.dst v') w') :
    if Region.wanted o (yielded ops a.tmps) = true then Oper.wp P o a w K Q else E := by
  have hw : Region.wanted o (yielded ops a.tmps) = true := by simp [Region.wanted, hgd]
  rw [if_pos hw]
  exact wp_append_own w s x t ho base e i z size bytes ht hi hz hsize hby hzs hsz v n xs hs hown ad m c news hx hl hnews h1 h63 hbytes hbase fun v' w' h2 h3 _ => h v' w' h2 h3
section
variable {w : World} {M : QMem} {d : Desk}
theorem Try.info73 : (Try.prog.info? 73).map (fun i => (i.zero, i.size, i.bytes)) = some (some (.agg #[.int .i64 0, .int .i64 0, .int .i64 0, .string ByteArray.empty, .slice none 0 0]), 5, 64) := by kernel_rfl
theorem grown_base {W0 w w' : World} {e size n : Nat} {v : Value} {xs : List Value} (h : Quiet W0 w) (ho : w.ownsRow W0.heap.size e size v n xs) (hg : w.grownBy w' v.ownBlock) : Quiet W0 w' :=
  Only.over h ((Only.refl (fun k => v.ownBlock = some k) w).of_grown hg (fun k hk _ => hk)) (fun i hi q => by have := (ho.lt i q).1; omega)
theorem own_zero {w : World} {base e size n : Nat} {v : Value} {xs : List Value} (h : w.ownsRow base e size v n xs) : w.ownsRow 0 e size v n xs := by
  obtain ⟨h1, h2⟩ := h
  refine ⟨h1, h2.imp_right ?_⟩
  rintro ⟨g, cap, cur, e1, e2, e3⟩
  exact ⟨g, cap, cur, e1, Nat.zero_le _, e3⟩
theorem own_lo {w : World} {base e size n : Nat} {v : Value} {xs : List Value} (h : w.ownsRow base e size v n xs) : ∀ k, v.ownBlock = some k → base ≤ k := fun k hk => (h.lt k hk).1
theorem row_shapeQ {w : World} {base e size n : Nat} {v : Value} {xs : List Value} (h : w.ownsRow base e size v n xs) : ∃ A c, v = .slice A n c := by
  obtain ⟨_, ⟨h1, h2⟩ | ⟨g, cap, cur, h1, _⟩⟩ := h
  · subst h2; exact ⟨_, _, h1⟩
  · exact ⟨_, _, h1⟩
theorem QAt.news (h : QAt w M d) {g cap : Nat} (hv : M.v = .slice (some ⟨g, 0, none⟩) M.ys.length cap) {j : Nat} {u : Value} (hu : (qflat M.ys)[j]? = some u) : w.cell? ⟨g, j, none⟩ = some u := by
  have hj := (List.getElem?_eq_some_iff.1 hu).1
  rw [qflat_len] at hj
  obtain ⟨h1, ⟨h2, h3⟩ | ⟨g', cap', cur, h3, h4, h5, h6, h7, h8, h9⟩⟩ := h.own
  · rw [h3] at hj; omega
  · rw [hv] at h3
    simp only [Value.slice.injEq, Option.some.injEq, Addr.mk.injEq] at h3
    obtain ⟨⟨rfl, _⟩, _, _⟩ := h3
    rw [blk_cell h5, ← hu, ← h9, List.getElem?_take, if_pos (by omega), Array.getElem?_toList]
theorem qflat_take : ∀ (ys : List QF) (i : Nat), qflat (ys.take i) = (qflat ys).take (i * 5)
  | [], i => by simp [qflat]
  | x :: l, 0 => by simp [qflat]
  | x :: l, i + 1 => by
    have := qflat_take l i
    simp only [qflat, List.take_succ_cons, List.flatMap_cons] at this ⊢
    rw [this, show (i + 1) * 5 = (qcells x).length + i * 5 by simp [qcells]; omega, List.take_length_add_append]
theorem qflat_drop : ∀ (ys : List QF) (i : Nat), qflat (ys.drop i) = (qflat ys).drop (i * 5)
  | [], i => by simp [qflat]
  | x :: l, 0 => by simp [qflat]
  | x :: l, i + 1 => by
    have := qflat_drop l i
    simp only [qflat, List.drop_succ_cons, List.flatMap_cons] at this ⊢
    rw [this, show (i + 1) * 5 = (qcells x).length + i * 5 by simp [qcells]; omega, List.drop_length_add_append]
theorem QAt.news_take (h : QAt w M d) {g cap : Nat} (hv : M.v = .slice (some ⟨g, 0, none⟩) M.ys.length cap) (i : Nat) : ∀ j u, (qflat (M.ys.take i))[j]? = some u → w.cell? ((⟨g, 0, none⟩ : Addr).add j) = some u := fun j u hu => by
  rw [qflat_take, List.getElem?_take] at hu
  rw [Addr.add_lit, Nat.zero_add]
  split at hu
  · exact h.news hv hu
  · cases hu
theorem QAt.news_drop (h : QAt w M d) {g cap : Nat} (hv : M.v = .slice (some ⟨g, 0, none⟩) M.ys.length cap) (i : Nat) : ∀ j u, (qflat (M.ys.drop i))[j]? = some u → w.cell? ((⟨g, i * 5, none⟩ : Addr).add j) = some u := fun j u hu => by
  rw [qflat_drop, List.getElem?_drop] at hu
  rw [Addr.add_lit]
  exact h.news hv hu
theorem tidy_js {js : List (Nat × Job)} {i : Nat} {e : Nat × Job} (he : js[i]? = some e) : tidy js i = if e.2.state ≠ 0 ∧ e.2.part = 0 then js.eraseIdx i else js := by
  unfold tidy; rw [he]
theorem erase_take {α : Type} : ∀ (l : List α) (i : Nat), l.take i ++ l.drop (i + 1) = l.eraseIdx i
  | [], i => by simp
  | x :: l, 0 => by simp
  | x :: l, i + 1 => by simp [erase_take l i]
theorem map_erase {α β : Type} (f : α → β) : ∀ (l : List α) (i : Nat), (l.eraseIdx i).map f = (l.map f).eraseIdx i
  | [], i => by simp
  | x :: l, 0 => by simp
  | x :: l, i + 1 => by simp [map_erase f l i]
theorem erase_at {α : Type} (l : List α) (i j : Nat) : (l.eraseIdx i)[j]? = if j < i then l[j]? else l[j + 1]? := by rw [List.getElem?_eraseIdx]
end
theorem tidy_row {w w4 : World} {M : QMem} {d : Desk} (h : QAt w M d) {i n : Nat} {y : QF} (hy : M.ys[i]? = some y) (hn : n = M.ys.length) (hg : y.2.2.state ≠ 0 ∧ y.2.2.part = 0) (hq : Quiet w w4) {v : Value} {m : Nat} {xs : List Value} (hx : (n = i + 1 ∧ m = 0 ∧ xs = []) ∨ (m = n - (i + 1) ∧ xs = qflat (M.ys.drop (i + 1))))
    (hown : w4.ownsRow w.heap.size 73 5 v (i + m) (qflat (M.ys.take i) ++ xs)) :
    QAt (w4.setCell ⟨M.p, 0, none⟩ v) { M with v := v, ys := M.ys.eraseIdx i } { d with js := tidy d.js i } ∧ QStep w (w4.setCell ⟨M.p, 0, none⟩ v) M { M with v := v, ys := M.ys.eraseIdx i } := by
  have hi := (List.getElem?_eq_some_iff.1 hy).1
  have ex : xs = qflat (M.ys.drop (i + 1)) ∧ i + m = (M.ys.eraseIdx i).length := by
    rw [List.length_eraseIdx_of_lt hi]
    rcases hx with ⟨h1, h2, h3⟩ | ⟨h1, h2⟩
    · refine ⟨?_, by omega⟩
      rw [h3, List.drop_eq_nil_of_le (by omega)]; rfl
    · exact ⟨h2, by omega⟩
  rw [ex.1, ex.2, ← qflat_app, erase_take] at hown
  have e : ({ d with js := tidy d.js i } : Desk) = ⟨(M.ys.eraseIdx i).map (·.2), d.last⟩ := by
    rw [tidy_js (h.job hy), if_pos hg, map_erase, ← h.js]
  rw [e]
  have hmem : ∀ y ∈ M.ys.eraseIdx i, y ∈ M.ys := fun z hz => List.mem_of_mem_eraseIdx hz
  refine h.row (F := fun _ => False) hq (fun _ x => x.elim) (Only.refl _ _) (own_zero hown) (fun k hk => .inr (own_lo hown k hk)) (fun z hz => .inl (hmem z hz)) (fun a b z z' hab hz hz' => ?_) ?_ rfl
  · rw [erase_at] at hz hz'
    split at hz <;> split at hz'
    · exact h.apart a b z z' hab hz hz'
    · exact h.apart a (b + 1) z z' (by omega) hz hz'
    · exact h.apart (a + 1) b z z' (by omega) hz hz'
    · exact h.apart (a + 1) (b + 1) z z' (by omega) hz hz'
  · have := h.small
    rw [List.length_eraseIdx_of_lt hi]; omega
set_option maxRecDepth 8000 in
set_option maxHeartbeats 16000000 in
theorem qtidy_keep {w : World} {M : QMem} {d : Desk} (h : QAt w M d) {i : Nat} {y : QF} (hy : M.ys[i]? = some y) (hg : ¬ (y.2.2.state ≠ 0 ∧ y.2.2.part = 0)) :
    Calls Try.prog 31 #[.pointer (some ⟨M.p, 0, none⟩), .int .i64 (i : Int)] w fun x w' => x = .returned (.tuple #[]) ∧ Quiet w w' := by
  obtain ⟨p0, _, ps⟩ := h.head
  obtain ⟨g, cap, hv, hc1, hc2, gs, _, hc⟩ := h.cells hy
  have hi := (List.getElem?_eq_some_iff.1 hy).1
  have hsm := h.small
  have q1 : w.cell? ⟨g, i * 5 + 1, none⟩ = some (.int .i64 (y.2.2.state : Nat)) := hc 1 (by omega)
  have q2 : w.cell? ⟨g, i * 5 + 2, none⟩ = some (.int .i64 (y.2.2.part : Nat)) := hc 2 (by omega)
  rw [hv] at p0
  obtain ⟨n, hn⟩ : ∃ n, n = M.ys.length := ⟨_, rfl⟩
  rw [← hn] at p0 hi hsm hc1
  obtain ⟨s, hs'⟩ : ∃ s, s = y.2.2.state := ⟨_, rfl⟩
  obtain ⟨t, ht'⟩ : ∃ t, t = y.2.2.part := ⟨_, rfl⟩
  rw [← hs'] at q1 hg
  rw [← ht'] at q2 hg
  unfold maxLen at hc2
  clear h hy hn hv hc hs' ht'
  have i0 : (0 : Int) ≤ (i : Int) := by omega
  have i1 : (i : Int) < (n : Int) := by omega
  by_cases hs : s = 0
  · have d1 : ((s : Int) != 0) = false := by simp; omega
    clear hg hs
    go_enter Try.func31, Try.ntmps31
    go_wp2_with fail
    go_end0
    exact ⟨rfl, Only.refl _ _⟩
  · have d1 : ((s : Int) != 0) = true := by simp; omega
    have d2 : ((t : Int) == 0) = false := by simp; omega
    clear hg hs
    go_enter Try.func31, Try.ntmps31
    go_wp2_with fail
    go_end0
    exact ⟨rfl, Only.refl _ _⟩
set_option maxRecDepth 8000 in
set_option maxHeartbeats 16000000 in
theorem qtidy_gone1 {w : World} {M : QMem} {d : Desk} (h : QAt w M d) {i : Nat} {y : QF} (hy : M.ys[i]? = some y) (hs : y.2.2.state ≠ 0) (hp : y.2.2.part = 0) {g cap : Nat} (hv : M.v = .slice (some ⟨g, 0, none⟩) M.ys.length cap) (hcc : cap = i + 1) :
    Calls Try.prog 31 #[.pointer (some ⟨M.p, 0, none⟩), .int .i64 (i : Int)] w fun x w' => x = .returned (.tuple #[]) ∧ ∃ M', QAt w' M' { d with js := tidy d.js i } ∧ QStep w w' M M' := by
  obtain ⟨p0, _, ps⟩ := h.head
  obtain ⟨g', cap', hv', hc1, hc2, gs, _, hc⟩ := h.cells hy
  rw [hv] at hv'
  simp only [Value.slice.injEq, Option.some.injEq, Addr.mk.injEq] at hv'
  obtain ⟨⟨rfl, _⟩, _, rfl⟩ := hv'
  have hi := (List.getElem?_eq_some_iff.1 hy).1
  have hsm := h.small
  have q1 : w.cell? ⟨g, i * 5 + 1, none⟩ = some (.int .i64 (y.2.2.state : Nat)) := hc 1 (by omega)
  have q2 : w.cell? ⟨g, i * 5 + 2, none⟩ = some (.int .i64 (y.2.2.part : Nat)) := hc 2 (by omega)
  rw [hp] at q2
  rw [hv] at p0
  have hbf := h.blk
  obtain ⟨n, hn⟩ : ∃ n, n = M.ys.length := ⟨_, rfl⟩
  rw [← hn] at p0 hi hsm hc1
  have H := Lib.hid h
  have HY := Lib.hid hy
  have HN := Lib.hid hn
  have HV := Lib.hid hv
  have HG := Lib.hid (show y.2.2.state ≠ 0 ∧ y.2.2.part = 0 from ⟨hs, hp⟩)
  have HIL := Lib.hid (show i ≤ M.ys.length by omega)
  have HC := Lib.hid (fun (V : World) (hV : Quiet w V) => show V.cell? ⟨M.p, 0, none⟩ = some (.slice (some ⟨g, 0, none⟩) n cap) ∧ M.p < V.heap.size from ⟨(hV.cell (p := ⟨M.p, 0, none⟩) ps (fun x => x)).trans p0, Nat.lt_of_lt_of_le ps hV.size⟩)
  have HFZ := Lib.hid (fun (V : World) (hV : Quiet w V) => blk_frozen (hV.keep hbf (fun x => x)) 0)
  obtain ⟨s, hs'⟩ : ∃ s, s = y.2.2.state := ⟨_, rfl⟩
  rw [← hs'] at q1 hs
  have d1 : ((s : Int) != 0) = true := by simp; omega
  unfold maxLen at hc2
  obtain ⟨it, ht0, ht1, ht2, ht3⟩ := info_parts Try.info73
  clear h hy hn hv hc hp hbf hs hs'
  have i0 : (0 : Int) ≤ (i : Int) := by omega
  have i1 : (i : Int) < (n : Int) := by omega
  have i2 : (i : Int) ≤ (cap : Int) := by omega
  have i3 : (i : Int) + 1 ≤ (n : Int) := by omega
  have i4 : (0 : Int) ≤ (i : Int) + 1 := by omega
  have iw : IntKind.i64.wrap ((i : Int) + 1) = (i : Int) + 1 := by have := IntKind.wrap_i64 ((i : Int) + 1); omega
  have i5 : (i : Int) ≤ (i : Int) + 1 := by omega
  go_enter Try.func31, Try.ntmps31
  go_wp2_with fail
  refine wp_region_noPanic ?_
  refine wp_region_held_drew (S := (fun _ => True)) (by kernel_rfl) ?_ (fun hHeld => ?_)
  · try dsimp only
    try trivial
  refine wpAnyH_take (i := 0) (v := ?_) (at_list rfl) (by kernel_rfl) (by kernel_rfl) (by kernel_rfl) (fun _ _ _ h => h) (Or.inl ⟨by rfl, ?_⟩) (by assumption) ?_
  rotate_left
  · intro w hSw
    try dsimp only at hSw
    go_simp
    try with_reducible rfl
  simp only [Act.put, List.setIfInBounds_toArray, List.set_cons_zero, List.set_cons_succ]
  refine wpAnyH_take (i := 2) (v := ?_) (at_list rfl) (by kernel_rfl) (by kernel_rfl) (by kernel_rfl) (fun _ _ _ h => h) (Or.inl ⟨by rfl, ?_⟩) (by assumption) ?_
  rotate_left
  · intro w hSw
    try dsimp only at hSw
    go_simp
    try with_reducible rfl
  simp only [Act.put, List.setIfInBounds_toArray, List.set_cons_zero, List.set_cons_succ]
  refine wpAnyH_take (i := 3) (v := ?_) (at_list rfl) (by kernel_rfl) (by kernel_rfl) (by kernel_rfl) (fun _ _ _ h => h) (Or.inl ⟨by rfl, ?_⟩) (by assumption) ?_
  rotate_left
  · intro w hSw
    try dsimp only at hSw
    go_simp
    try with_reducible rfl
  simp only [Act.put, List.setIfInBounds_toArray, List.set_cons_zero, List.set_cons_succ]
  refine wpAnyH_take (i := 4) (v := ?_) (at_list rfl) (by kernel_rfl) (by kernel_rfl) (by kernel_rfl) (fun _ _ _ h => h) (Or.inl ⟨by rfl, ?_⟩) (by assumption) ?_
  rotate_left
  · intro w hSw
    try dsimp only at hSw
    go_simp
    try with_reducible rfl
  simp only [Act.put, List.setIfInBounds_toArray, List.set_cons_zero, List.set_cons_succ]
  refine wpAnyH_take (i := 6) (v := ?_) (at_list rfl) (by kernel_rfl) (by kernel_rfl) (by kernel_rfl) (fun _ _ _ h => h) (Or.inl ⟨by rfl, ?_⟩) (by assumption) ?_
  rotate_left
  · intro w hSw
    try dsimp only at hSw
    go_simp
    try with_reducible rfl
  simp only [Act.put, List.setIfInBounds_toArray, List.set_cons_zero, List.set_cons_succ]
  refine wpAnyH_take (i := 9) (v := ?_) (at_list rfl) (by kernel_rfl) (by kernel_rfl) (by kernel_rfl) (fun _ _ _ h => h) (Or.inl ⟨by rfl, ?_⟩) (by assumption) ?_
  rotate_left
  · intro w hSw
    try dsimp only at hSw
    go_simp
    try with_reducible rfl
  simp only [Act.put, List.setIfInBounds_toArray, List.set_cons_zero, List.set_cons_succ]
  refine wpAnyH_take (i := 10) (v := ?_) (at_list rfl) (by kernel_rfl) (by kernel_rfl) (by kernel_rfl) (fun _ _ _ h => h) (Or.inl ⟨by rfl, ?_⟩) (by assumption) ?_
  rotate_left
  · intro w hSw
    try dsimp only at hSw
    go_simp
    try with_reducible rfl
  simp only [Act.put, List.setIfInBounds_toArray, List.set_cons_zero, List.set_cons_succ]
  refine wpAnyH_take (i := 11) (v := ?_) (at_list rfl) (by kernel_rfl) (by kernel_rfl) (by kernel_rfl) (fun _ _ _ h => h) (Or.inl ⟨by rfl, ?_⟩) (by assumption) ?_
  rotate_left
  · intro w hSw
    try dsimp only at hSw
    go_simp
    try with_reducible rfl
  simp only [Act.put, List.setIfInBounds_toArray, List.set_cons_zero, List.set_cons_succ]
  refine wpAnyH_take (i := 13) (v := ?_) (at_list rfl) (by kernel_rfl) (by kernel_rfl) (by kernel_rfl) (fun _ _ _ h => h) (Or.inl ⟨by rfl, ?_⟩) (by assumption) ?_
  rotate_left
  · intro w hSw
    try dsimp only at hSw
    go_simp
    try with_reducible rfl
  simp only [Act.put, List.setIfInBounds_toArray, List.set_cons_zero, List.set_cons_succ]
  refine wpAnyH_take (i := 14) (v := ?_) (at_list rfl) (by kernel_rfl) (by kernel_rfl) (by kernel_rfl) (fun _ _ _ h => h) (Or.inl ⟨by rfl, ?_⟩) (by assumption) ?_
  rotate_left
  · intro w hSw
    try dsimp only at hSw
    go_simp
    try with_reducible rfl
  simp only [Act.put, List.setIfInBounds_toArray, List.set_cons_zero, List.set_cons_succ]
  refine wpAnyH_ready (rs := [1, 5, 12]) (by kernel_rfl) (by simp) ?_
  refine AllReadyH.cons (at_list rfl) (fun KK hKK => ?_) (AllReadyH.cons (at_list rfl) (fun KK hKK => ?_) (AllReadyH.cons (at_list rfl) (fun KK hKK => ?_) AllReadyH.nil))
  · skip
    go_simp
    refine hKK.out _ _ ?_ (fun hHeld2 => ?_)
    · try dsimp only
      try trivial
    clear hKK KK hHeld
    rename _ => hHeld
    try simp only [Act.put, List.setIfInBounds_toArray, List.set_cons_zero, List.set_cons_succ]
    refine wpAnyH_ready (rs := [5, 12]) (by kernel_rfl) (by simp) ?_
    refine AllReadyH.cons (at_list rfl) (fun KK hKK => ?_) (AllReadyH.cons (at_list rfl) (fun KK hKK => ?_) AllReadyH.nil)
    · skip
      go_simp
      refine hKK.out _ _ ?_ (fun hHeld2 => ?_)
      · try dsimp only
        try trivial
      clear hKK KK hHeld
      rename _ => hHeld
      try simp only [Act.put, List.setIfInBounds_toArray, List.set_cons_zero, List.set_cons_succ]
      refine wpAnyH_take (i := 7) (v := ?_) (at_list rfl) (by kernel_rfl) (by kernel_rfl) (by kernel_rfl) (fun _ _ _ h => h) (Or.inl ⟨by rfl, ?_⟩) (by assumption) ?_
      rotate_left
      · intro w hSw
        try dsimp only at hSw
        go_simp
        try with_reducible rfl
      simp only [Act.put, List.setIfInBounds_toArray, List.set_cons_zero, List.set_cons_succ]
      refine wpAnyH_ready (rs := [8, 12]) (by kernel_rfl) (by simp) ?_
      refine AllReadyH.cons (at_list rfl) (fun KK hKK => ?_) (AllReadyH.cons (at_list rfl) (fun KK hKK => ?_) AllReadyH.nil)
      · skip
        refine step_append_own _ rfl (.tmp 25) (.tmp 31) 53 rfl w.heap.size 73 it (.agg #[.int .i64 0, .int .i64 0, .int .i64 0, .string ByteArray.empty, .slice none 0 0]) 5 64 Try.underlying53 ht0 ht1 ht2 ht3 rfl (by decide) (.slice (some ⟨w.heap.size, 0, none⟩) 0 0) 0 [] (by rfl) (own_empty (by repeat (first | exact qblk_new' _ _ (by first | rfl | simp) | refine qblk_drewN ?_ | refine qblk_drew ?_ | refine blk_alloc ?_ _)) (Nat.le_refl _)) ⟨g, 0, none⟩ i (i + 1) (qflat (M.ys.take i)) (by rfl) (by rw [qflat_len, List.length_take, Nat.min_eq_left HIL.out]) (QAt.news_take (H.out.quiet (by repeat (first | exact Only.refl _ _ | exact Q3.out | refine Only.drewN ?_ _ | refine Only.drew ?_ | refine Only.alloc ?_ _))) HV.out i) (qflat_one _) (by unfold maxLen; omega) (by omega) (by first | omega | (simp; done) | (simp; omega)) ?_
        intro v1 w3 hown1 hg1
        rw [Nat.zero_add, List.nil_append] at hown1
        have Q3 := Lib.hid (show Quiet w w3 from grown_base (W0 := w) (by repeat (first | exact Only.refl _ _ | exact Q3.out | refine Only.drewN ?_ _ | refine Only.drew ?_ | refine Only.alloc ?_ _)) (own_empty (size := 5) (base := w.heap.size) (by repeat (first | exact qblk_new' _ _ (by first | rfl | simp) | refine qblk_drewN ?_ | refine qblk_drew ?_ | refine blk_alloc ?_ _)) (Nat.le_refl _)) hg1)
        have HO1 := Lib.hid hown1
        obtain ⟨p3, l3⟩ := HC.out w3 Q3.out
        clear hown1 hg1
        refine hKK.out _ _ ?_ (fun hHeld2 => ?_)
        · try dsimp only
          try trivial
        clear hKK KK hHeld
        rename _ => hHeld
        try simp only [Act.put, List.setIfInBounds_toArray, List.set_cons_zero, List.set_cons_succ]
        refine wpAnyH_ready (rs := [12]) (by kernel_rfl) (by simp) ?_
        refine AllReadyH.cons (at_list rfl) (fun KK hKK => ?_) AllReadyH.nil
        go_simp
        refine hKK.out _ _ ?_ (fun hHeld2 => ?_)
        · try dsimp only
          try trivial
        clear hKK KK hHeld
        rename _ => hHeld
        try simp only [Act.put, List.setIfInBounds_toArray, List.set_cons_zero, List.set_cons_succ]
        refine wpAnyH_take (i := 15) (v := ?_) (at_list rfl) (by kernel_rfl) (by kernel_rfl) (by kernel_rfl) (fun _ _ _ h => h) (Or.inl ⟨by rfl, ?_⟩) (by assumption) ?_
        rotate_left
        · intro w hSw
          try dsimp only at hSw
          go_simp
          try with_reducible rfl
        simp only [Act.put, List.setIfInBounds_toArray, List.set_cons_zero, List.set_cons_succ]
        refine wpAnyH_ready (rs := [16]) (by kernel_rfl) (by simp) ?_
        refine AllReadyH.cons (at_list rfl) (fun KK hKK => ?_) AllReadyH.nil
        refine step_append_own _ rfl (.tmp 32) (.tmp 39) 53 rfl w.heap.size 73 it (.agg #[.int .i64 0, .int .i64 0, .int .i64 0, .string ByteArray.empty, .slice none 0 0]) 5 64 Try.underlying53 ht0 ht1 ht2 ht3 rfl (by decide) v1 i (qflat (M.ys.take i)) (by rfl) HO1.out ⟨g, 0, none⟩ (n - (i + 1)) 0 [] (by rfl) (by simp; omega) (fun j u hu => by simp at hu) (by simp) (by unfold maxLen; omega) (by omega) (Only.size Q3.out) ?_
        intro v2 w4 hown2 hg2
        obtain ⟨A2, c2, hv2⟩ := row_shapeQ hown2
        subst hv2
        have Q4 := Lib.hid (show Quiet w w4 from grown_base (W0 := w) Q3.out HO1.out hg2)
        have HP := Lib.hid (tidy_row H.out HY.out HN.out HG.out Q4.out (.inl ⟨by omega, by omega, rfl⟩) hown2)
        obtain ⟨p4, l4⟩ := HC.out w4 Q4.out
        have f4 := HFZ.out w4 Q4.out
        clear hown2 hg2
        refine hKK.out _ _ ?_ (fun hHeld2 => ?_)
        · try dsimp only
          try trivial
        clear hKK KK hHeld
        rename _ => hHeld
        try simp only [Act.put, List.setIfInBounds_toArray, List.set_cons_zero, List.set_cons_succ]
        refine wpAnyH_take (i := 17) (v := ?_) (at_list rfl) (by kernel_rfl) (by kernel_rfl) (by kernel_rfl) (fun _ _ _ h => h) (Or.inl ⟨by rfl, ?_⟩) (by assumption) ?_
        rotate_left
        · intro w hSw
          try dsimp only at hSw
          go_simp
          try with_reducible rfl
        simp only [Act.put, List.setIfInBounds_toArray, List.set_cons_zero, List.set_cons_succ]
        refine wpAnyH_take (i := 18) (v := ?_) (at_list rfl) (by kernel_rfl) (by kernel_rfl) (by kernel_rfl) (fun _ _ _ h => h) (Or.inl ⟨by rfl, ?_⟩) (by assumption) ?_
        rotate_left
        · intro w hSw
          try dsimp only at hSw
          go_simp
          try with_reducible rfl
        simp only [Act.put, List.setIfInBounds_toArray, List.set_cons_zero, List.set_cons_succ]
        refine wpAnyH_ready (rs := [19]) (by kernel_rfl) (by simp) ?_
        refine AllReadyH.cons (at_list rfl) (fun KK hKK => ?_) AllReadyH.nil
        go_simp
        refine hKK.out _ _ ?_ (fun hHeld2 => ?_)
        · try dsimp only
          try trivial
        clear hKK KK hHeld
        rename _ => hHeld
        try simp only [Act.put, List.setIfInBounds_toArray, List.set_cons_zero, List.set_cons_succ]
        refine wpAnyH_done (by kernel_rfl) ?_ _
        refine NoPanic.normal ?_
        go_wp2_with fail
        go_end0
        exact ⟨rfl, _, HP.out⟩
      · skip
        go_simp
        refine hKK.out _ _ ?_ (fun hHeld2 => ?_)
        · try dsimp only
          try trivial
        clear hKK KK hHeld
        rename _ => hHeld
        try simp only [Act.put, List.setIfInBounds_toArray, List.set_cons_zero, List.set_cons_succ]
        refine wpAnyH_take (i := 15) (v := ?_) (at_list rfl) (by kernel_rfl) (by kernel_rfl) (by kernel_rfl) (fun _ _ _ h => h) (Or.inl ⟨by rfl, ?_⟩) (by assumption) ?_
        rotate_left
        · intro w hSw
          try dsimp only at hSw
          go_simp
          try with_reducible rfl
        simp only [Act.put, List.setIfInBounds_toArray, List.set_cons_zero, List.set_cons_succ]
        refine wpAnyH_ready (rs := [8]) (by kernel_rfl) (by simp) ?_
        refine AllReadyH.cons (at_list rfl) (fun KK hKK => ?_) AllReadyH.nil
        refine step_append_own _ rfl (.tmp 25) (.tmp 31) 53 rfl w.heap.size 73 it (.agg #[.int .i64 0, .int .i64 0, .int .i64 0, .string ByteArray.empty, .slice none 0 0]) 5 64 Try.underlying53 ht0 ht1 ht2 ht3 rfl (by decide) (.slice (some ⟨w.heap.size, 0, none⟩) 0 0) 0 [] (by rfl) (own_empty (by repeat (first | exact qblk_new' _ _ (by first | rfl | simp) | refine qblk_drewN ?_ | refine qblk_drew ?_ | refine blk_alloc ?_ _)) (Nat.le_refl _)) ⟨g, 0, none⟩ i (i + 1) (qflat (M.ys.take i)) (by rfl) (by rw [qflat_len, List.length_take, Nat.min_eq_left HIL.out]) (QAt.news_take (H.out.quiet (by repeat (first | exact Only.refl _ _ | exact Q3.out | refine Only.drewN ?_ _ | refine Only.drew ?_ | refine Only.alloc ?_ _))) HV.out i) (qflat_one _) (by unfold maxLen; omega) (by omega) (by first | omega | (simp; done) | (simp; omega)) ?_
        intro v1 w3 hown1 hg1
        rw [Nat.zero_add, List.nil_append] at hown1
        have Q3 := Lib.hid (show Quiet w w3 from grown_base (W0 := w) (by repeat (first | exact Only.refl _ _ | exact Q3.out | refine Only.drewN ?_ _ | refine Only.drew ?_ | refine Only.alloc ?_ _)) (own_empty (size := 5) (base := w.heap.size) (by repeat (first | exact qblk_new' _ _ (by first | rfl | simp) | refine qblk_drewN ?_ | refine qblk_drew ?_ | refine blk_alloc ?_ _)) (Nat.le_refl _)) hg1)
        have HO1 := Lib.hid hown1
        obtain ⟨p3, l3⟩ := HC.out w3 Q3.out
        clear hown1 hg1
        refine hKK.out _ _ ?_ (fun hHeld2 => ?_)
        · try dsimp only
          try trivial
        clear hKK KK hHeld
        rename _ => hHeld
        try simp only [Act.put, List.setIfInBounds_toArray, List.set_cons_zero, List.set_cons_succ]
        refine wpAnyH_ready (rs := [16]) (by kernel_rfl) (by simp) ?_
        refine AllReadyH.cons (at_list rfl) (fun KK hKK => ?_) AllReadyH.nil
        refine step_append_own _ rfl (.tmp 32) (.tmp 39) 53 rfl w.heap.size 73 it (.agg #[.int .i64 0, .int .i64 0, .int .i64 0, .string ByteArray.empty, .slice none 0 0]) 5 64 Try.underlying53 ht0 ht1 ht2 ht3 rfl (by decide) v1 i (qflat (M.ys.take i)) (by rfl) HO1.out ⟨g, 0, none⟩ (n - (i + 1)) 0 [] (by rfl) (by simp; omega) (fun j u hu => by simp at hu) (by simp) (by unfold maxLen; omega) (by omega) (Only.size Q3.out) ?_
        intro v2 w4 hown2 hg2
        obtain ⟨A2, c2, hv2⟩ := row_shapeQ hown2
        subst hv2
        have Q4 := Lib.hid (show Quiet w w4 from grown_base (W0 := w) Q3.out HO1.out hg2)
        have HP := Lib.hid (tidy_row H.out HY.out HN.out HG.out Q4.out (.inl ⟨by omega, by omega, rfl⟩) hown2)
        obtain ⟨p4, l4⟩ := HC.out w4 Q4.out
        have f4 := HFZ.out w4 Q4.out
        clear hown2 hg2
        refine hKK.out _ _ ?_ (fun hHeld2 => ?_)
        · try dsimp only
          try trivial
        clear hKK KK hHeld
        rename _ => hHeld
        try simp only [Act.put, List.setIfInBounds_toArray, List.set_cons_zero, List.set_cons_succ]
        refine wpAnyH_take (i := 17) (v := ?_) (at_list rfl) (by kernel_rfl) (by kernel_rfl) (by kernel_rfl) (fun _ _ _ h => h) (Or.inl ⟨by rfl, ?_⟩) (by assumption) ?_
        rotate_left
        · intro w hSw
          try dsimp only at hSw
          go_simp
          try with_reducible rfl
        simp only [Act.put, List.setIfInBounds_toArray, List.set_cons_zero, List.set_cons_succ]
        refine wpAnyH_take (i := 18) (v := ?_) (at_list rfl) (by kernel_rfl) (by kernel_rfl) (by kernel_rfl) (fun _ _ _ h => h) (Or.inl ⟨by rfl, ?_⟩) (by assumption) ?_
        rotate_left
        · intro w hSw
          try dsimp only at hSw
          go_simp
          try with_reducible rfl
        simp only [Act.put, List.setIfInBounds_toArray, List.set_cons_zero, List.set_cons_succ]
        refine wpAnyH_ready (rs := [19]) (by kernel_rfl) (by simp) ?_
        refine AllReadyH.cons (at_list rfl) (fun KK hKK => ?_) AllReadyH.nil
        go_simp
        refine hKK.out _ _ ?_ (fun hHeld2 => ?_)
        · try dsimp only
          try trivial
        clear hKK KK hHeld
        rename _ => hHeld
        try simp only [Act.put, List.setIfInBounds_toArray, List.set_cons_zero, List.set_cons_succ]
        refine wpAnyH_done (by kernel_rfl) ?_ _
        refine NoPanic.normal ?_
        go_wp2_with fail
        go_end0
        exact ⟨rfl, _, HP.out⟩
    · skip
      go_simp
      refine hKK.out _ _ ?_ (fun hHeld2 => ?_)
      · try dsimp only
        try trivial
      clear hKK KK hHeld
      rename _ => hHeld
      try simp only [Act.put, List.setIfInBounds_toArray, List.set_cons_zero, List.set_cons_succ]
      refine wpAnyH_take (i := 15) (v := ?_) (at_list rfl) (by kernel_rfl) (by kernel_rfl) (by kernel_rfl) (fun _ _ _ h => h) (Or.inl ⟨by rfl, ?_⟩) (by assumption) ?_
      rotate_left
      · intro w hSw
        try dsimp only at hSw
        go_simp
        try with_reducible rfl
      simp only [Act.put, List.setIfInBounds_toArray, List.set_cons_zero, List.set_cons_succ]
      refine wpAnyH_ready (rs := [5]) (by kernel_rfl) (by simp) ?_
      refine AllReadyH.cons (at_list rfl) (fun KK hKK => ?_) AllReadyH.nil
      go_simp
      refine hKK.out _ _ ?_ (fun hHeld2 => ?_)
      · try dsimp only
        try trivial
      clear hKK KK hHeld
      rename _ => hHeld
      try simp only [Act.put, List.setIfInBounds_toArray, List.set_cons_zero, List.set_cons_succ]
      refine wpAnyH_take (i := 7) (v := ?_) (at_list rfl) (by kernel_rfl) (by kernel_rfl) (by kernel_rfl) (fun _ _ _ h => h) (Or.inl ⟨by rfl, ?_⟩) (by assumption) ?_
      rotate_left
      · intro w hSw
        try dsimp only at hSw
        go_simp
        try with_reducible rfl
      simp only [Act.put, List.setIfInBounds_toArray, List.set_cons_zero, List.set_cons_succ]
      refine wpAnyH_ready (rs := [8]) (by kernel_rfl) (by simp) ?_
      refine AllReadyH.cons (at_list rfl) (fun KK hKK => ?_) AllReadyH.nil
      refine step_append_own _ rfl (.tmp 25) (.tmp 31) 53 rfl w.heap.size 73 it (.agg #[.int .i64 0, .int .i64 0, .int .i64 0, .string ByteArray.empty, .slice none 0 0]) 5 64 Try.underlying53 ht0 ht1 ht2 ht3 rfl (by decide) (.slice (some ⟨w.heap.size, 0, none⟩) 0 0) 0 [] (by rfl) (own_empty (by repeat (first | exact qblk_new' _ _ (by first | rfl | simp) | refine qblk_drewN ?_ | refine qblk_drew ?_ | refine blk_alloc ?_ _)) (Nat.le_refl _)) ⟨g, 0, none⟩ i (i + 1) (qflat (M.ys.take i)) (by rfl) (by rw [qflat_len, List.length_take, Nat.min_eq_left HIL.out]) (QAt.news_take (H.out.quiet (by repeat (first | exact Only.refl _ _ | exact Q3.out | refine Only.drewN ?_ _ | refine Only.drew ?_ | refine Only.alloc ?_ _))) HV.out i) (qflat_one _) (by unfold maxLen; omega) (by omega) (by first | omega | (simp; done) | (simp; omega)) ?_
      intro v1 w3 hown1 hg1
      rw [Nat.zero_add, List.nil_append] at hown1
      have Q3 := Lib.hid (show Quiet w w3 from grown_base (W0 := w) (by repeat (first | exact Only.refl _ _ | exact Q3.out | refine Only.drewN ?_ _ | refine Only.drew ?_ | refine Only.alloc ?_ _)) (own_empty (size := 5) (base := w.heap.size) (by repeat (first | exact qblk_new' _ _ (by first | rfl | simp) | refine qblk_drewN ?_ | refine qblk_drew ?_ | refine blk_alloc ?_ _)) (Nat.le_refl _)) hg1)
      have HO1 := Lib.hid hown1
      obtain ⟨p3, l3⟩ := HC.out w3 Q3.out
      clear hown1 hg1
      refine hKK.out _ _ ?_ (fun hHeld2 => ?_)
      · try dsimp only
        try trivial
      clear hKK KK hHeld
      rename _ => hHeld
      try simp only [Act.put, List.setIfInBounds_toArray, List.set_cons_zero, List.set_cons_succ]
      refine wpAnyH_ready (rs := [16]) (by kernel_rfl) (by simp) ?_
      refine AllReadyH.cons (at_list rfl) (fun KK hKK => ?_) AllReadyH.nil
      refine step_append_own _ rfl (.tmp 32) (.tmp 39) 53 rfl w.heap.size 73 it (.agg #[.int .i64 0, .int .i64 0, .int .i64 0, .string ByteArray.empty, .slice none 0 0]) 5 64 Try.underlying53 ht0 ht1 ht2 ht3 rfl (by decide) v1 i (qflat (M.ys.take i)) (by rfl) HO1.out ⟨g, 0, none⟩ (n - (i + 1)) 0 [] (by rfl) (by simp; omega) (fun j u hu => by simp at hu) (by simp) (by unfold maxLen; omega) (by omega) (Only.size Q3.out) ?_
      intro v2 w4 hown2 hg2
      obtain ⟨A2, c2, hv2⟩ := row_shapeQ hown2
      subst hv2
      have Q4 := Lib.hid (show Quiet w w4 from grown_base (W0 := w) Q3.out HO1.out hg2)
      have HP := Lib.hid (tidy_row H.out HY.out HN.out HG.out Q4.out (.inl ⟨by omega, by omega, rfl⟩) hown2)
      obtain ⟨p4, l4⟩ := HC.out w4 Q4.out
      have f4 := HFZ.out w4 Q4.out
      clear hown2 hg2
      refine hKK.out _ _ ?_ (fun hHeld2 => ?_)
      · try dsimp only
        try trivial
      clear hKK KK hHeld
      rename _ => hHeld
      try simp only [Act.put, List.setIfInBounds_toArray, List.set_cons_zero, List.set_cons_succ]
      refine wpAnyH_take (i := 17) (v := ?_) (at_list rfl) (by kernel_rfl) (by kernel_rfl) (by kernel_rfl) (fun _ _ _ h => h) (Or.inl ⟨by rfl, ?_⟩) (by assumption) ?_
      rotate_left
      · intro w hSw
        try dsimp only at hSw
        go_simp
        try with_reducible rfl
      simp only [Act.put, List.setIfInBounds_toArray, List.set_cons_zero, List.set_cons_succ]
      refine wpAnyH_take (i := 18) (v := ?_) (at_list rfl) (by kernel_rfl) (by kernel_rfl) (by kernel_rfl) (fun _ _ _ h => h) (Or.inl ⟨by rfl, ?_⟩) (by assumption) ?_
      rotate_left
      · intro w hSw
        try dsimp only at hSw
        go_simp
        try with_reducible rfl
      simp only [Act.put, List.setIfInBounds_toArray, List.set_cons_zero, List.set_cons_succ]
      refine wpAnyH_ready (rs := [19]) (by kernel_rfl) (by simp) ?_
      refine AllReadyH.cons (at_list rfl) (fun KK hKK => ?_) AllReadyH.nil
      go_simp
      refine hKK.out _ _ ?_ (fun hHeld2 => ?_)
      · try dsimp only
        try trivial
      clear hKK KK hHeld
      rename _ => hHeld
      try simp only [Act.put, List.setIfInBounds_toArray, List.set_cons_zero, List.set_cons_succ]
      refine wpAnyH_done (by kernel_rfl) ?_ _
      refine NoPanic.normal ?_
      go_wp2_with fail
      go_end0
      exact ⟨rfl, _, HP.out⟩
  · skip
    go_simp
    refine hKK.out _ _ ?_ (fun hHeld2 => ?_)
    · try dsimp only
      try trivial
    clear hKK KK hHeld
    rename _ => hHeld
    try simp only [Act.put, List.setIfInBounds_toArray, List.set_cons_zero, List.set_cons_succ]
    refine wpAnyH_take (i := 7) (v := ?_) (at_list rfl) (by kernel_rfl) (by kernel_rfl) (by kernel_rfl) (fun _ _ _ h => h) (Or.inl ⟨by rfl, ?_⟩) (by assumption) ?_
    rotate_left
    · intro w hSw
      try dsimp only at hSw
      go_simp
      try with_reducible rfl
    simp only [Act.put, List.setIfInBounds_toArray, List.set_cons_zero, List.set_cons_succ]
    refine wpAnyH_ready (rs := [1, 12]) (by kernel_rfl) (by simp) ?_
    refine AllReadyH.cons (at_list rfl) (fun KK hKK => ?_) (AllReadyH.cons (at_list rfl) (fun KK hKK => ?_) AllReadyH.nil)
    · skip
      go_simp
      refine hKK.out _ _ ?_ (fun hHeld2 => ?_)
      · try dsimp only
        try trivial
      clear hKK KK hHeld
      rename _ => hHeld
      try simp only [Act.put, List.setIfInBounds_toArray, List.set_cons_zero, List.set_cons_succ]
      refine wpAnyH_ready (rs := [8, 12]) (by kernel_rfl) (by simp) ?_
      refine AllReadyH.cons (at_list rfl) (fun KK hKK => ?_) (AllReadyH.cons (at_list rfl) (fun KK hKK => ?_) AllReadyH.nil)
      · skip
        refine step_append_own _ rfl (.tmp 25) (.tmp 31) 53 rfl w.heap.size 73 it (.agg #[.int .i64 0, .int .i64 0, .int .i64 0, .string ByteArray.empty, .slice none 0 0]) 5 64 Try.underlying53 ht0 ht1 ht2 ht3 rfl (by decide) (.slice (some ⟨w.heap.size, 0, none⟩) 0 0) 0 [] (by rfl) (own_empty (by repeat (first | exact qblk_new' _ _ (by first | rfl | simp) | refine qblk_drewN ?_ | refine qblk_drew ?_ | refine blk_alloc ?_ _)) (Nat.le_refl _)) ⟨g, 0, none⟩ i (i + 1) (qflat (M.ys.take i)) (by rfl) (by rw [qflat_len, List.length_take, Nat.min_eq_left HIL.out]) (QAt.news_take (H.out.quiet (by repeat (first | exact Only.refl _ _ | exact Q3.out | refine Only.drewN ?_ _ | refine Only.drew ?_ | refine Only.alloc ?_ _))) HV.out i) (qflat_one _) (by unfold maxLen; omega) (by omega) (by first | omega | (simp; done) | (simp; omega)) ?_
        intro v1 w3 hown1 hg1
        rw [Nat.zero_add, List.nil_append] at hown1
        have Q3 := Lib.hid (show Quiet w w3 from grown_base (W0 := w) (by repeat (first | exact Only.refl _ _ | exact Q3.out | refine Only.drewN ?_ _ | refine Only.drew ?_ | refine Only.alloc ?_ _)) (own_empty (size := 5) (base := w.heap.size) (by repeat (first | exact qblk_new' _ _ (by first | rfl | simp) | refine qblk_drewN ?_ | refine qblk_drew ?_ | refine blk_alloc ?_ _)) (Nat.le_refl _)) hg1)
        have HO1 := Lib.hid hown1
        obtain ⟨p3, l3⟩ := HC.out w3 Q3.out
        clear hown1 hg1
        refine hKK.out _ _ ?_ (fun hHeld2 => ?_)
        · try dsimp only
          try trivial
        clear hKK KK hHeld
        rename _ => hHeld
        try simp only [Act.put, List.setIfInBounds_toArray, List.set_cons_zero, List.set_cons_succ]
        refine wpAnyH_ready (rs := [12]) (by kernel_rfl) (by simp) ?_
        refine AllReadyH.cons (at_list rfl) (fun KK hKK => ?_) AllReadyH.nil
        go_simp
        refine hKK.out _ _ ?_ (fun hHeld2 => ?_)
        · try dsimp only
          try trivial
        clear hKK KK hHeld
        rename _ => hHeld
        try simp only [Act.put, List.setIfInBounds_toArray, List.set_cons_zero, List.set_cons_succ]
        refine wpAnyH_take (i := 15) (v := ?_) (at_list rfl) (by kernel_rfl) (by kernel_rfl) (by kernel_rfl) (fun _ _ _ h => h) (Or.inl ⟨by rfl, ?_⟩) (by assumption) ?_
        rotate_left
        · intro w hSw
          try dsimp only at hSw
          go_simp
          try with_reducible rfl
        simp only [Act.put, List.setIfInBounds_toArray, List.set_cons_zero, List.set_cons_succ]
        refine wpAnyH_ready (rs := [16]) (by kernel_rfl) (by simp) ?_
        refine AllReadyH.cons (at_list rfl) (fun KK hKK => ?_) AllReadyH.nil
        refine step_append_own _ rfl (.tmp 32) (.tmp 39) 53 rfl w.heap.size 73 it (.agg #[.int .i64 0, .int .i64 0, .int .i64 0, .string ByteArray.empty, .slice none 0 0]) 5 64 Try.underlying53 ht0 ht1 ht2 ht3 rfl (by decide) v1 i (qflat (M.ys.take i)) (by rfl) HO1.out ⟨g, 0, none⟩ (n - (i + 1)) 0 [] (by rfl) (by simp; omega) (fun j u hu => by simp at hu) (by simp) (by unfold maxLen; omega) (by omega) (Only.size Q3.out) ?_
        intro v2 w4 hown2 hg2
        obtain ⟨A2, c2, hv2⟩ := row_shapeQ hown2
        subst hv2
        have Q4 := Lib.hid (show Quiet w w4 from grown_base (W0 := w) Q3.out HO1.out hg2)
        have HP := Lib.hid (tidy_row H.out HY.out HN.out HG.out Q4.out (.inl ⟨by omega, by omega, rfl⟩) hown2)
        obtain ⟨p4, l4⟩ := HC.out w4 Q4.out
        have f4 := HFZ.out w4 Q4.out
        clear hown2 hg2
        refine hKK.out _ _ ?_ (fun hHeld2 => ?_)
        · try dsimp only
          try trivial
        clear hKK KK hHeld
        rename _ => hHeld
        try simp only [Act.put, List.setIfInBounds_toArray, List.set_cons_zero, List.set_cons_succ]
        refine wpAnyH_take (i := 17) (v := ?_) (at_list rfl) (by kernel_rfl) (by kernel_rfl) (by kernel_rfl) (fun _ _ _ h => h) (Or.inl ⟨by rfl, ?_⟩) (by assumption) ?_
        rotate_left
        · intro w hSw
          try dsimp only at hSw
          go_simp
          try with_reducible rfl
        simp only [Act.put, List.setIfInBounds_toArray, List.set_cons_zero, List.set_cons_succ]
        refine wpAnyH_take (i := 18) (v := ?_) (at_list rfl) (by kernel_rfl) (by kernel_rfl) (by kernel_rfl) (fun _ _ _ h => h) (Or.inl ⟨by rfl, ?_⟩) (by assumption) ?_
        rotate_left
        · intro w hSw
          try dsimp only at hSw
          go_simp
          try with_reducible rfl
        simp only [Act.put, List.setIfInBounds_toArray, List.set_cons_zero, List.set_cons_succ]
        refine wpAnyH_ready (rs := [19]) (by kernel_rfl) (by simp) ?_
        refine AllReadyH.cons (at_list rfl) (fun KK hKK => ?_) AllReadyH.nil
        go_simp
        refine hKK.out _ _ ?_ (fun hHeld2 => ?_)
        · try dsimp only
          try trivial
        clear hKK KK hHeld
        rename _ => hHeld
        try simp only [Act.put, List.setIfInBounds_toArray, List.set_cons_zero, List.set_cons_succ]
        refine wpAnyH_done (by kernel_rfl) ?_ _
        refine NoPanic.normal ?_
        go_wp2_with fail
        go_end0
        exact ⟨rfl, _, HP.out⟩
      · skip
        go_simp
        refine hKK.out _ _ ?_ (fun hHeld2 => ?_)
        · try dsimp only
          try trivial
        clear hKK KK hHeld
        rename _ => hHeld
        try simp only [Act.put, List.setIfInBounds_toArray, List.set_cons_zero, List.set_cons_succ]
        refine wpAnyH_take (i := 15) (v := ?_) (at_list rfl) (by kernel_rfl) (by kernel_rfl) (by kernel_rfl) (fun _ _ _ h => h) (Or.inl ⟨by rfl, ?_⟩) (by assumption) ?_
        rotate_left
        · intro w hSw
          try dsimp only at hSw
          go_simp
          try with_reducible rfl
        simp only [Act.put, List.setIfInBounds_toArray, List.set_cons_zero, List.set_cons_succ]
        refine wpAnyH_ready (rs := [8]) (by kernel_rfl) (by simp) ?_
        refine AllReadyH.cons (at_list rfl) (fun KK hKK => ?_) AllReadyH.nil
        refine step_append_own _ rfl (.tmp 25) (.tmp 31) 53 rfl w.heap.size 73 it (.agg #[.int .i64 0, .int .i64 0, .int .i64 0, .string ByteArray.empty, .slice none 0 0]) 5 64 Try.underlying53 ht0 ht1 ht2 ht3 rfl (by decide) (.slice (some ⟨w.heap.size, 0, none⟩) 0 0) 0 [] (by rfl) (own_empty (by repeat (first | exact qblk_new' _ _ (by first | rfl | simp) | refine qblk_drewN ?_ | refine qblk_drew ?_ | refine blk_alloc ?_ _)) (Nat.le_refl _)) ⟨g, 0, none⟩ i (i + 1) (qflat (M.ys.take i)) (by rfl) (by rw [qflat_len, List.length_take, Nat.min_eq_left HIL.out]) (QAt.news_take (H.out.quiet (by repeat (first | exact Only.refl _ _ | exact Q3.out | refine Only.drewN ?_ _ | refine Only.drew ?_ | refine Only.alloc ?_ _))) HV.out i) (qflat_one _) (by unfold maxLen; omega) (by omega) (by first | omega | (simp; done) | (simp; omega)) ?_
        intro v1 w3 hown1 hg1
        rw [Nat.zero_add, List.nil_append] at hown1
        have Q3 := Lib.hid (show Quiet w w3 from grown_base (W0 := w) (by repeat (first | exact Only.refl _ _ | exact Q3.out | refine Only.drewN ?_ _ | refine Only.drew ?_ | refine Only.alloc ?_ _)) (own_empty (size := 5) (base := w.heap.size) (by repeat (first | exact qblk_new' _ _ (by first | rfl | simp) | refine qblk_drewN ?_ | refine qblk_drew ?_ | refine blk_alloc ?_ _)) (Nat.le_refl _)) hg1)
        have HO1 := Lib.hid hown1
        obtain ⟨p3, l3⟩ := HC.out w3 Q3.out
        clear hown1 hg1
        refine hKK.out _ _ ?_ (fun hHeld2 => ?_)
        · try dsimp only
          try trivial
        clear hKK KK hHeld
        rename _ => hHeld
        try simp only [Act.put, List.setIfInBounds_toArray, List.set_cons_zero, List.set_cons_succ]
        refine wpAnyH_ready (rs := [16]) (by kernel_rfl) (by simp) ?_
        refine AllReadyH.cons (at_list rfl) (fun KK hKK => ?_) AllReadyH.nil
        refine step_append_own _ rfl (.tmp 32) (.tmp 39) 53 rfl w.heap.size 73 it (.agg #[.int .i64 0, .int .i64 0, .int .i64 0, .string ByteArray.empty, .slice none 0 0]) 5 64 Try.underlying53 ht0 ht1 ht2 ht3 rfl (by decide) v1 i (qflat (M.ys.take i)) (by rfl) HO1.out ⟨g, 0, none⟩ (n - (i + 1)) 0 [] (by rfl) (by simp; omega) (fun j u hu => by simp at hu) (by simp) (by unfold maxLen; omega) (by omega) (Only.size Q3.out) ?_
        intro v2 w4 hown2 hg2
        obtain ⟨A2, c2, hv2⟩ := row_shapeQ hown2
        subst hv2
        have Q4 := Lib.hid (show Quiet w w4 from grown_base (W0 := w) Q3.out HO1.out hg2)
        have HP := Lib.hid (tidy_row H.out HY.out HN.out HG.out Q4.out (.inl ⟨by omega, by omega, rfl⟩) hown2)
        obtain ⟨p4, l4⟩ := HC.out w4 Q4.out
        have f4 := HFZ.out w4 Q4.out
        clear hown2 hg2
        refine hKK.out _ _ ?_ (fun hHeld2 => ?_)
        · try dsimp only
          try trivial
        clear hKK KK hHeld
        rename _ => hHeld
        try simp only [Act.put, List.setIfInBounds_toArray, List.set_cons_zero, List.set_cons_succ]
        refine wpAnyH_take (i := 17) (v := ?_) (at_list rfl) (by kernel_rfl) (by kernel_rfl) (by kernel_rfl) (fun _ _ _ h => h) (Or.inl ⟨by rfl, ?_⟩) (by assumption) ?_
        rotate_left
        · intro w hSw
          try dsimp only at hSw
          go_simp
          try with_reducible rfl
        simp only [Act.put, List.setIfInBounds_toArray, List.set_cons_zero, List.set_cons_succ]
        refine wpAnyH_take (i := 18) (v := ?_) (at_list rfl) (by kernel_rfl) (by kernel_rfl) (by kernel_rfl) (fun _ _ _ h => h) (Or.inl ⟨by rfl, ?_⟩) (by assumption) ?_
        rotate_left
        · intro w hSw
          try dsimp only at hSw
          go_simp
          try with_reducible rfl
        simp only [Act.put, List.setIfInBounds_toArray, List.set_cons_zero, List.set_cons_succ]
        refine wpAnyH_ready (rs := [19]) (by kernel_rfl) (by simp) ?_
        refine AllReadyH.cons (at_list rfl) (fun KK hKK => ?_) AllReadyH.nil
        go_simp
        refine hKK.out _ _ ?_ (fun hHeld2 => ?_)
        · try dsimp only
          try trivial
        clear hKK KK hHeld
        rename _ => hHeld
        try simp only [Act.put, List.setIfInBounds_toArray, List.set_cons_zero, List.set_cons_succ]
        refine wpAnyH_done (by kernel_rfl) ?_ _
        refine NoPanic.normal ?_
        go_wp2_with fail
        go_end0
        exact ⟨rfl, _, HP.out⟩
    · skip
      go_simp
      refine hKK.out _ _ ?_ (fun hHeld2 => ?_)
      · try dsimp only
        try trivial
      clear hKK KK hHeld
      rename _ => hHeld
      try simp only [Act.put, List.setIfInBounds_toArray, List.set_cons_zero, List.set_cons_succ]
      refine wpAnyH_take (i := 15) (v := ?_) (at_list rfl) (by kernel_rfl) (by kernel_rfl) (by kernel_rfl) (fun _ _ _ h => h) (Or.inl ⟨by rfl, ?_⟩) (by assumption) ?_
      rotate_left
      · intro w hSw
        try dsimp only at hSw
        go_simp
        try with_reducible rfl
      simp only [Act.put, List.setIfInBounds_toArray, List.set_cons_zero, List.set_cons_succ]
      refine wpAnyH_ready (rs := [1]) (by kernel_rfl) (by simp) ?_
      refine AllReadyH.cons (at_list rfl) (fun KK hKK => ?_) AllReadyH.nil
      go_simp
      refine hKK.out _ _ ?_ (fun hHeld2 => ?_)
      · try dsimp only
        try trivial
      clear hKK KK hHeld
      rename _ => hHeld
      try simp only [Act.put, List.setIfInBounds_toArray, List.set_cons_zero, List.set_cons_succ]
      refine wpAnyH_ready (rs := [8]) (by kernel_rfl) (by simp) ?_
      refine AllReadyH.cons (at_list rfl) (fun KK hKK => ?_) AllReadyH.nil
      refine step_append_own _ rfl (.tmp 25) (.tmp 31) 53 rfl w.heap.size 73 it (.agg #[.int .i64 0, .int .i64 0, .int .i64 0, .string ByteArray.empty, .slice none 0 0]) 5 64 Try.underlying53 ht0 ht1 ht2 ht3 rfl (by decide) (.slice (some ⟨w.heap.size, 0, none⟩) 0 0) 0 [] (by rfl) (own_empty (by repeat (first | exact qblk_new' _ _ (by first | rfl | simp) | refine qblk_drewN ?_ | refine qblk_drew ?_ | refine blk_alloc ?_ _)) (Nat.le_refl _)) ⟨g, 0, none⟩ i (i + 1) (qflat (M.ys.take i)) (by rfl) (by rw [qflat_len, List.length_take, Nat.min_eq_left HIL.out]) (QAt.news_take (H.out.quiet (by repeat (first | exact Only.refl _ _ | exact Q3.out | refine Only.drewN ?_ _ | refine Only.drew ?_ | refine Only.alloc ?_ _))) HV.out i) (qflat_one _) (by unfold maxLen; omega) (by omega) (by first | omega | (simp; done) | (simp; omega)) ?_
      intro v1 w3 hown1 hg1
      rw [Nat.zero_add, List.nil_append] at hown1
      have Q3 := Lib.hid (show Quiet w w3 from grown_base (W0 := w) (by repeat (first | exact Only.refl _ _ | exact Q3.out | refine Only.drewN ?_ _ | refine Only.drew ?_ | refine Only.alloc ?_ _)) (own_empty (size := 5) (base := w.heap.size) (by repeat (first | exact qblk_new' _ _ (by first | rfl | simp) | refine qblk_drewN ?_ | refine qblk_drew ?_ | refine blk_alloc ?_ _)) (Nat.le_refl _)) hg1)
      have HO1 := Lib.hid hown1
      obtain ⟨p3, l3⟩ := HC.out w3 Q3.out
      clear hown1 hg1
      refine hKK.out _ _ ?_ (fun hHeld2 => ?_)
      · try dsimp only
        try trivial
      clear hKK KK hHeld
      rename _ => hHeld
      try simp only [Act.put, List.setIfInBounds_toArray, List.set_cons_zero, List.set_cons_succ]
      refine wpAnyH_ready (rs := [16]) (by kernel_rfl) (by simp) ?_
      refine AllReadyH.cons (at_list rfl) (fun KK hKK => ?_) AllReadyH.nil
      refine step_append_own _ rfl (.tmp 32) (.tmp 39) 53 rfl w.heap.size 73 it (.agg #[.int .i64 0, .int .i64 0, .int .i64 0, .string ByteArray.empty, .slice none 0 0]) 5 64 Try.underlying53 ht0 ht1 ht2 ht3 rfl (by decide) v1 i (qflat (M.ys.take i)) (by rfl) HO1.out ⟨g, 0, none⟩ (n - (i + 1)) 0 [] (by rfl) (by simp; omega) (fun j u hu => by simp at hu) (by simp) (by unfold maxLen; omega) (by omega) (Only.size Q3.out) ?_
      intro v2 w4 hown2 hg2
      obtain ⟨A2, c2, hv2⟩ := row_shapeQ hown2
      subst hv2
      have Q4 := Lib.hid (show Quiet w w4 from grown_base (W0 := w) Q3.out HO1.out hg2)
      have HP := Lib.hid (tidy_row H.out HY.out HN.out HG.out Q4.out (.inl ⟨by omega, by omega, rfl⟩) hown2)
      obtain ⟨p4, l4⟩ := HC.out w4 Q4.out
      have f4 := HFZ.out w4 Q4.out
      clear hown2 hg2
      refine hKK.out _ _ ?_ (fun hHeld2 => ?_)
      · try dsimp only
        try trivial
      clear hKK KK hHeld
      rename _ => hHeld
      try simp only [Act.put, List.setIfInBounds_toArray, List.set_cons_zero, List.set_cons_succ]
      refine wpAnyH_take (i := 17) (v := ?_) (at_list rfl) (by kernel_rfl) (by kernel_rfl) (by kernel_rfl) (fun _ _ _ h => h) (Or.inl ⟨by rfl, ?_⟩) (by assumption) ?_
      rotate_left
      · intro w hSw
        try dsimp only at hSw
        go_simp
        try with_reducible rfl
      simp only [Act.put, List.setIfInBounds_toArray, List.set_cons_zero, List.set_cons_succ]
      refine wpAnyH_take (i := 18) (v := ?_) (at_list rfl) (by kernel_rfl) (by kernel_rfl) (by kernel_rfl) (fun _ _ _ h => h) (Or.inl ⟨by rfl, ?_⟩) (by assumption) ?_
      rotate_left
      · intro w hSw
        try dsimp only at hSw
        go_simp
        try with_reducible rfl
      simp only [Act.put, List.setIfInBounds_toArray, List.set_cons_zero, List.set_cons_succ]
      refine wpAnyH_ready (rs := [19]) (by kernel_rfl) (by simp) ?_
      refine AllReadyH.cons (at_list rfl) (fun KK hKK => ?_) AllReadyH.nil
      go_simp
      refine hKK.out _ _ ?_ (fun hHeld2 => ?_)
      · try dsimp only
        try trivial
      clear hKK KK hHeld
      rename _ => hHeld
      try simp only [Act.put, List.setIfInBounds_toArray, List.set_cons_zero, List.set_cons_succ]
      refine wpAnyH_done (by kernel_rfl) ?_ _
      refine NoPanic.normal ?_
      go_wp2_with fail
      go_end0
      exact ⟨rfl, _, HP.out⟩
  · skip
    go_simp
    refine hKK.out _ _ ?_ (fun hHeld2 => ?_)
    · try dsimp only
      try trivial
    clear hKK KK hHeld
    rename _ => hHeld
    try simp only [Act.put, List.setIfInBounds_toArray, List.set_cons_zero, List.set_cons_succ]
    refine wpAnyH_take (i := 15) (v := ?_) (at_list rfl) (by kernel_rfl) (by kernel_rfl) (by kernel_rfl) (fun _ _ _ h => h) (Or.inl ⟨by rfl, ?_⟩) (by assumption) ?_
    rotate_left
    · intro w hSw
      try dsimp only at hSw
      go_simp
      try with_reducible rfl
    simp only [Act.put, List.setIfInBounds_toArray, List.set_cons_zero, List.set_cons_succ]
    refine wpAnyH_ready (rs := [1, 5]) (by kernel_rfl) (by simp) ?_
    refine AllReadyH.cons (at_list rfl) (fun KK hKK => ?_) (AllReadyH.cons (at_list rfl) (fun KK hKK => ?_) AllReadyH.nil)
    · skip
      go_simp
      refine hKK.out _ _ ?_ (fun hHeld2 => ?_)
      · try dsimp only
        try trivial
      clear hKK KK hHeld
      rename _ => hHeld
      try simp only [Act.put, List.setIfInBounds_toArray, List.set_cons_zero, List.set_cons_succ]
      refine wpAnyH_ready (rs := [5]) (by kernel_rfl) (by simp) ?_
      refine AllReadyH.cons (at_list rfl) (fun KK hKK => ?_) AllReadyH.nil
      go_simp
      refine hKK.out _ _ ?_ (fun hHeld2 => ?_)
      · try dsimp only
        try trivial
      clear hKK KK hHeld
      rename _ => hHeld
      try simp only [Act.put, List.setIfInBounds_toArray, List.set_cons_zero, List.set_cons_succ]
      refine wpAnyH_take (i := 7) (v := ?_) (at_list rfl) (by kernel_rfl) (by kernel_rfl) (by kernel_rfl) (fun _ _ _ h => h) (Or.inl ⟨by rfl, ?_⟩) (by assumption) ?_
      rotate_left
      · intro w hSw
        try dsimp only at hSw
        go_simp
        try with_reducible rfl
      simp only [Act.put, List.setIfInBounds_toArray, List.set_cons_zero, List.set_cons_succ]
      refine wpAnyH_ready (rs := [8]) (by kernel_rfl) (by simp) ?_
      refine AllReadyH.cons (at_list rfl) (fun KK hKK => ?_) AllReadyH.nil
      refine step_append_own _ rfl (.tmp 25) (.tmp 31) 53 rfl w.heap.size 73 it (.agg #[.int .i64 0, .int .i64 0, .int .i64 0, .string ByteArray.empty, .slice none 0 0]) 5 64 Try.underlying53 ht0 ht1 ht2 ht3 rfl (by decide) (.slice (some ⟨w.heap.size, 0, none⟩) 0 0) 0 [] (by rfl) (own_empty (by repeat (first | exact qblk_new' _ _ (by first | rfl | simp) | refine qblk_drewN ?_ | refine qblk_drew ?_ | refine blk_alloc ?_ _)) (Nat.le_refl _)) ⟨g, 0, none⟩ i (i + 1) (qflat (M.ys.take i)) (by rfl) (by rw [qflat_len, List.length_take, Nat.min_eq_left HIL.out]) (QAt.news_take (H.out.quiet (by repeat (first | exact Only.refl _ _ | exact Q3.out | refine Only.drewN ?_ _ | refine Only.drew ?_ | refine Only.alloc ?_ _))) HV.out i) (qflat_one _) (by unfold maxLen; omega) (by omega) (by first | omega | (simp; done) | (simp; omega)) ?_
      intro v1 w3 hown1 hg1
      rw [Nat.zero_add, List.nil_append] at hown1
      have Q3 := Lib.hid (show Quiet w w3 from grown_base (W0 := w) (by repeat (first | exact Only.refl _ _ | exact Q3.out | refine Only.drewN ?_ _ | refine Only.drew ?_ | refine Only.alloc ?_ _)) (own_empty (size := 5) (base := w.heap.size) (by repeat (first | exact qblk_new' _ _ (by first | rfl | simp) | refine qblk_drewN ?_ | refine qblk_drew ?_ | refine blk_alloc ?_ _)) (Nat.le_refl _)) hg1)
      have HO1 := Lib.hid hown1
      obtain ⟨p3, l3⟩ := HC.out w3 Q3.out
      clear hown1 hg1
      refine hKK.out _ _ ?_ (fun hHeld2 => ?_)
      · try dsimp only
        try trivial
      clear hKK KK hHeld
      rename _ => hHeld
      try simp only [Act.put, List.setIfInBounds_toArray, List.set_cons_zero, List.set_cons_succ]
      refine wpAnyH_ready (rs := [16]) (by kernel_rfl) (by simp) ?_
      refine AllReadyH.cons (at_list rfl) (fun KK hKK => ?_) AllReadyH.nil
      refine step_append_own _ rfl (.tmp 32) (.tmp 39) 53 rfl w.heap.size 73 it (.agg #[.int .i64 0, .int .i64 0, .int .i64 0, .string ByteArray.empty, .slice none 0 0]) 5 64 Try.underlying53 ht0 ht1 ht2 ht3 rfl (by decide) v1 i (qflat (M.ys.take i)) (by rfl) HO1.out ⟨g, 0, none⟩ (n - (i + 1)) 0 [] (by rfl) (by simp; omega) (fun j u hu => by simp at hu) (by simp) (by unfold maxLen; omega) (by omega) (Only.size Q3.out) ?_
      intro v2 w4 hown2 hg2
      obtain ⟨A2, c2, hv2⟩ := row_shapeQ hown2
      subst hv2
      have Q4 := Lib.hid (show Quiet w w4 from grown_base (W0 := w) Q3.out HO1.out hg2)
      have HP := Lib.hid (tidy_row H.out HY.out HN.out HG.out Q4.out (.inl ⟨by omega, by omega, rfl⟩) hown2)
      obtain ⟨p4, l4⟩ := HC.out w4 Q4.out
      have f4 := HFZ.out w4 Q4.out
      clear hown2 hg2
      refine hKK.out _ _ ?_ (fun hHeld2 => ?_)
      · try dsimp only
        try trivial
      clear hKK KK hHeld
      rename _ => hHeld
      try simp only [Act.put, List.setIfInBounds_toArray, List.set_cons_zero, List.set_cons_succ]
      refine wpAnyH_take (i := 17) (v := ?_) (at_list rfl) (by kernel_rfl) (by kernel_rfl) (by kernel_rfl) (fun _ _ _ h => h) (Or.inl ⟨by rfl, ?_⟩) (by assumption) ?_
      rotate_left
      · intro w hSw
        try dsimp only at hSw
        go_simp
        try with_reducible rfl
      simp only [Act.put, List.setIfInBounds_toArray, List.set_cons_zero, List.set_cons_succ]
      refine wpAnyH_take (i := 18) (v := ?_) (at_list rfl) (by kernel_rfl) (by kernel_rfl) (by kernel_rfl) (fun _ _ _ h => h) (Or.inl ⟨by rfl, ?_⟩) (by assumption) ?_
      rotate_left
      · intro w hSw
        try dsimp only at hSw
        go_simp
        try with_reducible rfl
      simp only [Act.put, List.setIfInBounds_toArray, List.set_cons_zero, List.set_cons_succ]
      refine wpAnyH_ready (rs := [19]) (by kernel_rfl) (by simp) ?_
      refine AllReadyH.cons (at_list rfl) (fun KK hKK => ?_) AllReadyH.nil
      go_simp
      refine hKK.out _ _ ?_ (fun hHeld2 => ?_)
      · try dsimp only
        try trivial
      clear hKK KK hHeld
      rename _ => hHeld
      try simp only [Act.put, List.setIfInBounds_toArray, List.set_cons_zero, List.set_cons_succ]
      refine wpAnyH_done (by kernel_rfl) ?_ _
      refine NoPanic.normal ?_
      go_wp2_with fail
      go_end0
      exact ⟨rfl, _, HP.out⟩
    · skip
      go_simp
      refine hKK.out _ _ ?_ (fun hHeld2 => ?_)
      · try dsimp only
        try trivial
      clear hKK KK hHeld
      rename _ => hHeld
      try simp only [Act.put, List.setIfInBounds_toArray, List.set_cons_zero, List.set_cons_succ]
      refine wpAnyH_take (i := 7) (v := ?_) (at_list rfl) (by kernel_rfl) (by kernel_rfl) (by kernel_rfl) (fun _ _ _ h => h) (Or.inl ⟨by rfl, ?_⟩) (by assumption) ?_
      rotate_left
      · intro w hSw
        try dsimp only at hSw
        go_simp
        try with_reducible rfl
      simp only [Act.put, List.setIfInBounds_toArray, List.set_cons_zero, List.set_cons_succ]
      refine wpAnyH_ready (rs := [1]) (by kernel_rfl) (by simp) ?_
      refine AllReadyH.cons (at_list rfl) (fun KK hKK => ?_) AllReadyH.nil
      go_simp
      refine hKK.out _ _ ?_ (fun hHeld2 => ?_)
      · try dsimp only
        try trivial
      clear hKK KK hHeld
      rename _ => hHeld
      try simp only [Act.put, List.setIfInBounds_toArray, List.set_cons_zero, List.set_cons_succ]
      refine wpAnyH_ready (rs := [8]) (by kernel_rfl) (by simp) ?_
      refine AllReadyH.cons (at_list rfl) (fun KK hKK => ?_) AllReadyH.nil
      refine step_append_own _ rfl (.tmp 25) (.tmp 31) 53 rfl w.heap.size 73 it (.agg #[.int .i64 0, .int .i64 0, .int .i64 0, .string ByteArray.empty, .slice none 0 0]) 5 64 Try.underlying53 ht0 ht1 ht2 ht3 rfl (by decide) (.slice (some ⟨w.heap.size, 0, none⟩) 0 0) 0 [] (by rfl) (own_empty (by repeat (first | exact qblk_new' _ _ (by first | rfl | simp) | refine qblk_drewN ?_ | refine qblk_drew ?_ | refine blk_alloc ?_ _)) (Nat.le_refl _)) ⟨g, 0, none⟩ i (i + 1) (qflat (M.ys.take i)) (by rfl) (by rw [qflat_len, List.length_take, Nat.min_eq_left HIL.out]) (QAt.news_take (H.out.quiet (by repeat (first | exact Only.refl _ _ | exact Q3.out | refine Only.drewN ?_ _ | refine Only.drew ?_ | refine Only.alloc ?_ _))) HV.out i) (qflat_one _) (by unfold maxLen; omega) (by omega) (by first | omega | (simp; done) | (simp; omega)) ?_
      intro v1 w3 hown1 hg1
      rw [Nat.zero_add, List.nil_append] at hown1
      have Q3 := Lib.hid (show Quiet w w3 from grown_base (W0 := w) (by repeat (first | exact Only.refl _ _ | exact Q3.out | refine Only.drewN ?_ _ | refine Only.drew ?_ | refine Only.alloc ?_ _)) (own_empty (size := 5) (base := w.heap.size) (by repeat (first | exact qblk_new' _ _ (by first | rfl | simp) | refine qblk_drewN ?_ | refine qblk_drew ?_ | refine blk_alloc ?_ _)) (Nat.le_refl _)) hg1)
      have HO1 := Lib.hid hown1
      obtain ⟨p3, l3⟩ := HC.out w3 Q3.out
      clear hown1 hg1
      refine hKK.out _ _ ?_ (fun hHeld2 => ?_)
      · try dsimp only
        try trivial
      clear hKK KK hHeld
      rename _ => hHeld
      try simp only [Act.put, List.setIfInBounds_toArray, List.set_cons_zero, List.set_cons_succ]
      refine wpAnyH_ready (rs := [16]) (by kernel_rfl) (by simp) ?_
      refine AllReadyH.cons (at_list rfl) (fun KK hKK => ?_) AllReadyH.nil
      refine step_append_own _ rfl (.tmp 32) (.tmp 39) 53 rfl w.heap.size 73 it (.agg #[.int .i64 0, .int .i64 0, .int .i64 0, .string ByteArray.empty, .slice none 0 0]) 5 64 Try.underlying53 ht0 ht1 ht2 ht3 rfl (by decide) v1 i (qflat (M.ys.take i)) (by rfl) HO1.out ⟨g, 0, none⟩ (n - (i + 1)) 0 [] (by rfl) (by simp; omega) (fun j u hu => by simp at hu) (by simp) (by unfold maxLen; omega) (by omega) (Only.size Q3.out) ?_
      intro v2 w4 hown2 hg2
      obtain ⟨A2, c2, hv2⟩ := row_shapeQ hown2
      subst hv2
      have Q4 := Lib.hid (show Quiet w w4 from grown_base (W0 := w) Q3.out HO1.out hg2)
      have HP := Lib.hid (tidy_row H.out HY.out HN.out HG.out Q4.out (.inl ⟨by omega, by omega, rfl⟩) hown2)
      obtain ⟨p4, l4⟩ := HC.out w4 Q4.out
      have f4 := HFZ.out w4 Q4.out
      clear hown2 hg2
      refine hKK.out _ _ ?_ (fun hHeld2 => ?_)
      · try dsimp only
        try trivial
      clear hKK KK hHeld
      rename _ => hHeld
      try simp only [Act.put, List.setIfInBounds_toArray, List.set_cons_zero, List.set_cons_succ]
      refine wpAnyH_take (i := 17) (v := ?_) (at_list rfl) (by kernel_rfl) (by kernel_rfl) (by kernel_rfl) (fun _ _ _ h => h) (Or.inl ⟨by rfl, ?_⟩) (by assumption) ?_
      rotate_left
      · intro w hSw
        try dsimp only at hSw
        go_simp
        try with_reducible rfl
      simp only [Act.put, List.setIfInBounds_toArray, List.set_cons_zero, List.set_cons_succ]
      refine wpAnyH_take (i := 18) (v := ?_) (at_list rfl) (by kernel_rfl) (by kernel_rfl) (by kernel_rfl) (fun _ _ _ h => h) (Or.inl ⟨by rfl, ?_⟩) (by assumption) ?_
      rotate_left
      · intro w hSw
        try dsimp only at hSw
        go_simp
        try with_reducible rfl
      simp only [Act.put, List.setIfInBounds_toArray, List.set_cons_zero, List.set_cons_succ]
      refine wpAnyH_ready (rs := [19]) (by kernel_rfl) (by simp) ?_
      refine AllReadyH.cons (at_list rfl) (fun KK hKK => ?_) AllReadyH.nil
      go_simp
      refine hKK.out _ _ ?_ (fun hHeld2 => ?_)
      · try dsimp only
        try trivial
      clear hKK KK hHeld
      rename _ => hHeld
      try simp only [Act.put, List.setIfInBounds_toArray, List.set_cons_zero, List.set_cons_succ]
      refine wpAnyH_done (by kernel_rfl) ?_ _
      refine NoPanic.normal ?_
      go_wp2_with fail
      go_end0
      exact ⟨rfl, _, HP.out⟩
set_option maxRecDepth 8000 in
set_option maxHeartbeats 16000000 in
theorem qtidy_gone2 {w : World} {M : QMem} {d : Desk} (h : QAt w M d) {i : Nat} {y : QF} (hy : M.ys[i]? = some y) (hs : y.2.2.state ≠ 0) (hp : y.2.2.part = 0) {g cap : Nat} (hv : M.v = .slice (some ⟨g, 0, none⟩) M.ys.length cap) (hcc : cap ≠ i + 1) :
    Calls Try.prog 31 #[.pointer (some ⟨M.p, 0, none⟩), .int .i64 (i : Int)] w fun x w' => x = .returned (.tuple #[]) ∧ ∃ M', QAt w' M' { d with js := tidy d.js i } ∧ QStep w w' M M' := by
  obtain ⟨p0, _, ps⟩ := h.head
  obtain ⟨g', cap', hv', hc1, hc2, gs, _, hc⟩ := h.cells hy
  rw [hv] at hv'
  simp only [Value.slice.injEq, Option.some.injEq, Addr.mk.injEq] at hv'
  obtain ⟨⟨rfl, _⟩, _, rfl⟩ := hv'
  have hi := (List.getElem?_eq_some_iff.1 hy).1
  have hsm := h.small
  have q1 : w.cell? ⟨g, i * 5 + 1, none⟩ = some (.int .i64 (y.2.2.state : Nat)) := hc 1 (by omega)
  have q2 : w.cell? ⟨g, i * 5 + 2, none⟩ = some (.int .i64 (y.2.2.part : Nat)) := hc 2 (by omega)
  rw [hp] at q2
  rw [hv] at p0
  have hbf := h.blk
  obtain ⟨n, hn⟩ : ∃ n, n = M.ys.length := ⟨_, rfl⟩
  rw [← hn] at p0 hi hsm hc1
  have H := Lib.hid h
  have HY := Lib.hid hy
  have HN := Lib.hid hn
  have HV := Lib.hid hv
  have HG := Lib.hid (show y.2.2.state ≠ 0 ∧ y.2.2.part = 0 from ⟨hs, hp⟩)
  have HIL := Lib.hid (show i ≤ M.ys.length by omega)
  have HC := Lib.hid (fun (V : World) (hV : Quiet w V) => show V.cell? ⟨M.p, 0, none⟩ = some (.slice (some ⟨g, 0, none⟩) n cap) ∧ M.p < V.heap.size from ⟨(hV.cell (p := ⟨M.p, 0, none⟩) ps (fun x => x)).trans p0, Nat.lt_of_lt_of_le ps hV.size⟩)
  have HFZ := Lib.hid (fun (V : World) (hV : Quiet w V) => blk_frozen (hV.keep hbf (fun x => x)) 0)
  obtain ⟨s, hs'⟩ : ∃ s, s = y.2.2.state := ⟨_, rfl⟩
  rw [← hs'] at q1 hs
  have d1 : ((s : Int) != 0) = true := by simp; omega
  unfold maxLen at hc2
  obtain ⟨it, ht0, ht1, ht2, ht3⟩ := info_parts Try.info73
  clear h hy hn hv hc hp hbf hs hs'
  have i0 : (0 : Int) ≤ (i : Int) := by omega
  have i1 : (i : Int) < (n : Int) := by omega
  have i2 : (i : Int) ≤ (cap : Int) := by omega
  have i3 : (i : Int) + 1 ≤ (n : Int) := by omega
  have i4 : (0 : Int) ≤ (i : Int) + 1 := by omega
  have iw : IntKind.i64.wrap ((i : Int) + 1) = (i : Int) + 1 := by have := IntKind.wrap_i64 ((i : Int) + 1); omega
  have i5 : (i : Int) ≤ (i : Int) + 1 := by omega
  go_enter Try.func31, Try.ntmps31
  go_wp2_with fail
  refine wp_region_noPanic ?_
  refine wp_region_held_drew (S := (fun _ => True)) (by kernel_rfl) ?_ (fun hHeld => ?_)
  · try dsimp only
    try trivial
  refine wpAnyH_take (i := 0) (v := ?_) (at_list rfl) (by kernel_rfl) (by kernel_rfl) (by kernel_rfl) (fun _ _ _ h => h) (Or.inl ⟨by rfl, ?_⟩) (by assumption) ?_
  rotate_left
  · intro w hSw
    try dsimp only at hSw
    go_simp
    try with_reducible rfl
  simp only [Act.put, List.setIfInBounds_toArray, List.set_cons_zero, List.set_cons_succ]
  refine wpAnyH_take (i := 2) (v := ?_) (at_list rfl) (by kernel_rfl) (by kernel_rfl) (by kernel_rfl) (fun _ _ _ h => h) (Or.inl ⟨by rfl, ?_⟩) (by assumption) ?_
  rotate_left
  · intro w hSw
    try dsimp only at hSw
    go_simp
    try with_reducible rfl
  simp only [Act.put, List.setIfInBounds_toArray, List.set_cons_zero, List.set_cons_succ]
  refine wpAnyH_take (i := 3) (v := ?_) (at_list rfl) (by kernel_rfl) (by kernel_rfl) (by kernel_rfl) (fun _ _ _ h => h) (Or.inl ⟨by rfl, ?_⟩) (by assumption) ?_
  rotate_left
  · intro w hSw
    try dsimp only at hSw
    go_simp
    try with_reducible rfl
  simp only [Act.put, List.setIfInBounds_toArray, List.set_cons_zero, List.set_cons_succ]
  refine wpAnyH_take (i := 4) (v := ?_) (at_list rfl) (by kernel_rfl) (by kernel_rfl) (by kernel_rfl) (fun _ _ _ h => h) (Or.inl ⟨by rfl, ?_⟩) (by assumption) ?_
  rotate_left
  · intro w hSw
    try dsimp only at hSw
    go_simp
    try with_reducible rfl
  simp only [Act.put, List.setIfInBounds_toArray, List.set_cons_zero, List.set_cons_succ]
  refine wpAnyH_take (i := 6) (v := ?_) (at_list rfl) (by kernel_rfl) (by kernel_rfl) (by kernel_rfl) (fun _ _ _ h => h) (Or.inl ⟨by rfl, ?_⟩) (by assumption) ?_
  rotate_left
  · intro w hSw
    try dsimp only at hSw
    go_simp
    try with_reducible rfl
  simp only [Act.put, List.setIfInBounds_toArray, List.set_cons_zero, List.set_cons_succ]
  refine wpAnyH_take (i := 9) (v := ?_) (at_list rfl) (by kernel_rfl) (by kernel_rfl) (by kernel_rfl) (fun _ _ _ h => h) (Or.inl ⟨by rfl, ?_⟩) (by assumption) ?_
  rotate_left
  · intro w hSw
    try dsimp only at hSw
    go_simp
    try with_reducible rfl
  simp only [Act.put, List.setIfInBounds_toArray, List.set_cons_zero, List.set_cons_succ]
  refine wpAnyH_take (i := 10) (v := ?_) (at_list rfl) (by kernel_rfl) (by kernel_rfl) (by kernel_rfl) (fun _ _ _ h => h) (Or.inl ⟨by rfl, ?_⟩) (by assumption) ?_
  rotate_left
  · intro w hSw
    try dsimp only at hSw
    go_simp
    try with_reducible rfl
  simp only [Act.put, List.setIfInBounds_toArray, List.set_cons_zero, List.set_cons_succ]
  refine wpAnyH_take (i := 11) (v := ?_) (at_list rfl) (by kernel_rfl) (by kernel_rfl) (by kernel_rfl) (fun _ _ _ h => h) (Or.inl ⟨by rfl, ?_⟩) (by assumption) ?_
  rotate_left
  · intro w hSw
    try dsimp only at hSw
    go_simp
    try with_reducible rfl
  simp only [Act.put, List.setIfInBounds_toArray, List.set_cons_zero, List.set_cons_succ]
  refine wpAnyH_take (i := 13) (v := ?_) (at_list rfl) (by kernel_rfl) (by kernel_rfl) (by kernel_rfl) (fun _ _ _ h => h) (Or.inl ⟨by rfl, ?_⟩) (by assumption) ?_
  rotate_left
  · intro w hSw
    try dsimp only at hSw
    go_simp
    try with_reducible rfl
  simp only [Act.put, List.setIfInBounds_toArray, List.set_cons_zero, List.set_cons_succ]
  refine wpAnyH_take (i := 14) (v := ?_) (at_list rfl) (by kernel_rfl) (by kernel_rfl) (by kernel_rfl) (fun _ _ _ h => h) (Or.inl ⟨by rfl, ?_⟩) (by assumption) ?_
  rotate_left
  · intro w hSw
    try dsimp only at hSw
    go_simp
    try with_reducible rfl
  simp only [Act.put, List.setIfInBounds_toArray, List.set_cons_zero, List.set_cons_succ]
  refine wpAnyH_ready (rs := [1, 5, 12]) (by kernel_rfl) (by simp) ?_
  refine AllReadyH.cons (at_list rfl) (fun KK hKK => ?_) (AllReadyH.cons (at_list rfl) (fun KK hKK => ?_) (AllReadyH.cons (at_list rfl) (fun KK hKK => ?_) AllReadyH.nil))
  · skip
    go_simp
    refine hKK.out _ _ ?_ (fun hHeld2 => ?_)
    · try dsimp only
      try trivial
    clear hKK KK hHeld
    rename _ => hHeld
    try simp only [Act.put, List.setIfInBounds_toArray, List.set_cons_zero, List.set_cons_succ]
    refine wpAnyH_ready (rs := [5, 12]) (by kernel_rfl) (by simp) ?_
    refine AllReadyH.cons (at_list rfl) (fun KK hKK => ?_) (AllReadyH.cons (at_list rfl) (fun KK hKK => ?_) AllReadyH.nil)
    · skip
      go_simp
      refine hKK.out _ _ ?_ (fun hHeld2 => ?_)
      · try dsimp only
        try trivial
      clear hKK KK hHeld
      rename _ => hHeld
      try simp only [Act.put, List.setIfInBounds_toArray, List.set_cons_zero, List.set_cons_succ]
      refine wpAnyH_take (i := 7) (v := ?_) (at_list rfl) (by kernel_rfl) (by kernel_rfl) (by kernel_rfl) (fun _ _ _ h => h) (Or.inl ⟨by rfl, ?_⟩) (by assumption) ?_
      rotate_left
      · intro w hSw
        try dsimp only at hSw
        go_simp
        try with_reducible rfl
      simp only [Act.put, List.setIfInBounds_toArray, List.set_cons_zero, List.set_cons_succ]
      refine wpAnyH_ready (rs := [8, 12]) (by kernel_rfl) (by simp) ?_
      refine AllReadyH.cons (at_list rfl) (fun KK hKK => ?_) (AllReadyH.cons (at_list rfl) (fun KK hKK => ?_) AllReadyH.nil)
      · skip
        refine step_append_own _ rfl (.tmp 25) (.tmp 31) 53 rfl w.heap.size 73 it (.agg #[.int .i64 0, .int .i64 0, .int .i64 0, .string ByteArray.empty, .slice none 0 0]) 5 64 Try.underlying53 ht0 ht1 ht2 ht3 rfl (by decide) (.slice (some ⟨w.heap.size, 0, none⟩) 0 0) 0 [] (by rfl) (own_empty (by repeat (first | exact qblk_new' _ _ (by first | rfl | simp) | refine qblk_drewN ?_ | refine qblk_drew ?_ | refine blk_alloc ?_ _)) (Nat.le_refl _)) ⟨g, 0, none⟩ i cap (qflat (M.ys.take i)) (by rfl) (by rw [qflat_len, List.length_take, Nat.min_eq_left HIL.out]) (QAt.news_take (H.out.quiet (by repeat (first | exact Only.refl _ _ | exact Q3.out | refine Only.drewN ?_ _ | refine Only.drew ?_ | refine Only.alloc ?_ _))) HV.out i) (qflat_one _) (by unfold maxLen; omega) (by omega) (by first | omega | (simp; done) | (simp; omega)) ?_
        intro v1 w3 hown1 hg1
        rw [Nat.zero_add, List.nil_append] at hown1
        have Q3 := Lib.hid (show Quiet w w3 from grown_base (W0 := w) (by repeat (first | exact Only.refl _ _ | exact Q3.out | refine Only.drewN ?_ _ | refine Only.drew ?_ | refine Only.alloc ?_ _)) (own_empty (size := 5) (base := w.heap.size) (by repeat (first | exact qblk_new' _ _ (by first | rfl | simp) | refine qblk_drewN ?_ | refine qblk_drew ?_ | refine blk_alloc ?_ _)) (Nat.le_refl _)) hg1)
        have HO1 := Lib.hid hown1
        obtain ⟨p3, l3⟩ := HC.out w3 Q3.out
        clear hown1 hg1
        refine hKK.out _ _ ?_ (fun hHeld2 => ?_)
        · try dsimp only
          try trivial
        clear hKK KK hHeld
        rename _ => hHeld
        try simp only [Act.put, List.setIfInBounds_toArray, List.set_cons_zero, List.set_cons_succ]
        refine wpAnyH_ready (rs := [12]) (by kernel_rfl) (by simp) ?_
        refine AllReadyH.cons (at_list rfl) (fun KK hKK => ?_) AllReadyH.nil
        go_simp
        refine hKK.out _ _ ?_ (fun hHeld2 => ?_)
        · try dsimp only
          try trivial
        clear hKK KK hHeld
        rename _ => hHeld
        try simp only [Act.put, List.setIfInBounds_toArray, List.set_cons_zero, List.set_cons_succ]
        refine wpAnyH_take (i := 15) (v := ?_) (at_list rfl) (by kernel_rfl) (by kernel_rfl) (by kernel_rfl) (fun _ _ _ h => h) (Or.inl ⟨by rfl, ?_⟩) (by assumption) ?_
        rotate_left
        · intro w hSw
          try dsimp only at hSw
          go_simp
          try with_reducible rfl
        simp only [Act.put, List.setIfInBounds_toArray, List.set_cons_zero, List.set_cons_succ]
        refine wpAnyH_ready (rs := [16]) (by kernel_rfl) (by simp) ?_
        refine AllReadyH.cons (at_list rfl) (fun KK hKK => ?_) AllReadyH.nil
        refine step_append_own _ rfl (.tmp 32) (.tmp 39) 53 rfl w.heap.size 73 it (.agg #[.int .i64 0, .int .i64 0, .int .i64 0, .string ByteArray.empty, .slice none 0 0]) 5 64 Try.underlying53 ht0 ht1 ht2 ht3 rfl (by decide) v1 i (qflat (M.ys.take i)) (by rfl) HO1.out ⟨g, (i + 1) * 5, none⟩ (n - (i + 1)) (cap - (i + 1)) (qflat (M.ys.drop (i + 1))) (by rfl) (by rw [qflat_len, List.length_drop, ← HN.out]) (QAt.news_drop (H.out.quiet Q3.out) HV.out (i + 1)) (qflat_one _) (by unfold maxLen; omega) (by omega) (Only.size Q3.out) ?_
        intro v2 w4 hown2 hg2
        obtain ⟨A2, c2, hv2⟩ := row_shapeQ hown2
        subst hv2
        have Q4 := Lib.hid (show Quiet w w4 from grown_base (W0 := w) Q3.out HO1.out hg2)
        have HP := Lib.hid (tidy_row H.out HY.out HN.out HG.out Q4.out (.inr ⟨rfl, rfl⟩) hown2)
        obtain ⟨p4, l4⟩ := HC.out w4 Q4.out
        have f4 := HFZ.out w4 Q4.out
        clear hown2 hg2
        refine hKK.out _ _ ?_ (fun hHeld2 => ?_)
        · try dsimp only
          try trivial
        clear hKK KK hHeld
        rename _ => hHeld
        try simp only [Act.put, List.setIfInBounds_toArray, List.set_cons_zero, List.set_cons_succ]
        refine wpAnyH_take (i := 17) (v := ?_) (at_list rfl) (by kernel_rfl) (by kernel_rfl) (by kernel_rfl) (fun _ _ _ h => h) (Or.inl ⟨by rfl, ?_⟩) (by assumption) ?_
        rotate_left
        · intro w hSw
          try dsimp only at hSw
          go_simp
          try with_reducible rfl
        simp only [Act.put, List.setIfInBounds_toArray, List.set_cons_zero, List.set_cons_succ]
        refine wpAnyH_take (i := 18) (v := ?_) (at_list rfl) (by kernel_rfl) (by kernel_rfl) (by kernel_rfl) (fun _ _ _ h => h) (Or.inl ⟨by rfl, ?_⟩) (by assumption) ?_
        rotate_left
        · intro w hSw
          try dsimp only at hSw
          go_simp
          try with_reducible rfl
        simp only [Act.put, List.setIfInBounds_toArray, List.set_cons_zero, List.set_cons_succ]
        refine wpAnyH_ready (rs := [19]) (by kernel_rfl) (by simp) ?_
        refine AllReadyH.cons (at_list rfl) (fun KK hKK => ?_) AllReadyH.nil
        go_simp
        refine hKK.out _ _ ?_ (fun hHeld2 => ?_)
        · try dsimp only
          try trivial
        clear hKK KK hHeld
        rename _ => hHeld
        try simp only [Act.put, List.setIfInBounds_toArray, List.set_cons_zero, List.set_cons_succ]
        refine wpAnyH_done (by kernel_rfl) ?_ _
        refine NoPanic.normal ?_
        go_wp2_with fail
        go_end0
        exact ⟨rfl, _, HP.out⟩
      · skip
        go_simp
        refine hKK.out _ _ ?_ (fun hHeld2 => ?_)
        · try dsimp only
          try trivial
        clear hKK KK hHeld
        rename _ => hHeld
        try simp only [Act.put, List.setIfInBounds_toArray, List.set_cons_zero, List.set_cons_succ]
        refine wpAnyH_take (i := 15) (v := ?_) (at_list rfl) (by kernel_rfl) (by kernel_rfl) (by kernel_rfl) (fun _ _ _ h => h) (Or.inl ⟨by rfl, ?_⟩) (by assumption) ?_
        rotate_left
        · intro w hSw
          try dsimp only at hSw
          go_simp
          try with_reducible rfl
        simp only [Act.put, List.setIfInBounds_toArray, List.set_cons_zero, List.set_cons_succ]
        refine wpAnyH_ready (rs := [8]) (by kernel_rfl) (by simp) ?_
        refine AllReadyH.cons (at_list rfl) (fun KK hKK => ?_) AllReadyH.nil
        refine step_append_own _ rfl (.tmp 25) (.tmp 31) 53 rfl w.heap.size 73 it (.agg #[.int .i64 0, .int .i64 0, .int .i64 0, .string ByteArray.empty, .slice none 0 0]) 5 64 Try.underlying53 ht0 ht1 ht2 ht3 rfl (by decide) (.slice (some ⟨w.heap.size, 0, none⟩) 0 0) 0 [] (by rfl) (own_empty (by repeat (first | exact qblk_new' _ _ (by first | rfl | simp) | refine qblk_drewN ?_ | refine qblk_drew ?_ | refine blk_alloc ?_ _)) (Nat.le_refl _)) ⟨g, 0, none⟩ i cap (qflat (M.ys.take i)) (by rfl) (by rw [qflat_len, List.length_take, Nat.min_eq_left HIL.out]) (QAt.news_take (H.out.quiet (by repeat (first | exact Only.refl _ _ | exact Q3.out | refine Only.drewN ?_ _ | refine Only.drew ?_ | refine Only.alloc ?_ _))) HV.out i) (qflat_one _) (by unfold maxLen; omega) (by omega) (by first | omega | (simp; done) | (simp; omega)) ?_
        intro v1 w3 hown1 hg1
        rw [Nat.zero_add, List.nil_append] at hown1
        have Q3 := Lib.hid (show Quiet w w3 from grown_base (W0 := w) (by repeat (first | exact Only.refl _ _ | exact Q3.out | refine Only.drewN ?_ _ | refine Only.drew ?_ | refine Only.alloc ?_ _)) (own_empty (size := 5) (base := w.heap.size) (by repeat (first | exact qblk_new' _ _ (by first | rfl | simp) | refine qblk_drewN ?_ | refine qblk_drew ?_ | refine blk_alloc ?_ _)) (Nat.le_refl _)) hg1)
        have HO1 := Lib.hid hown1
        obtain ⟨p3, l3⟩ := HC.out w3 Q3.out
        clear hown1 hg1
        refine hKK.out _ _ ?_ (fun hHeld2 => ?_)
        · try dsimp only
          try trivial
        clear hKK KK hHeld
        rename _ => hHeld
        try simp only [Act.put, List.setIfInBounds_toArray, List.set_cons_zero, List.set_cons_succ]
        refine wpAnyH_ready (rs := [16]) (by kernel_rfl) (by simp) ?_
        refine AllReadyH.cons (at_list rfl) (fun KK hKK => ?_) AllReadyH.nil
        refine step_append_own _ rfl (.tmp 32) (.tmp 39) 53 rfl w.heap.size 73 it (.agg #[.int .i64 0, .int .i64 0, .int .i64 0, .string ByteArray.empty, .slice none 0 0]) 5 64 Try.underlying53 ht0 ht1 ht2 ht3 rfl (by decide) v1 i (qflat (M.ys.take i)) (by rfl) HO1.out ⟨g, (i + 1) * 5, none⟩ (n - (i + 1)) (cap - (i + 1)) (qflat (M.ys.drop (i + 1))) (by rfl) (by rw [qflat_len, List.length_drop, ← HN.out]) (QAt.news_drop (H.out.quiet Q3.out) HV.out (i + 1)) (qflat_one _) (by unfold maxLen; omega) (by omega) (Only.size Q3.out) ?_
        intro v2 w4 hown2 hg2
        obtain ⟨A2, c2, hv2⟩ := row_shapeQ hown2
        subst hv2
        have Q4 := Lib.hid (show Quiet w w4 from grown_base (W0 := w) Q3.out HO1.out hg2)
        have HP := Lib.hid (tidy_row H.out HY.out HN.out HG.out Q4.out (.inr ⟨rfl, rfl⟩) hown2)
        obtain ⟨p4, l4⟩ := HC.out w4 Q4.out
        have f4 := HFZ.out w4 Q4.out
        clear hown2 hg2
        refine hKK.out _ _ ?_ (fun hHeld2 => ?_)
        · try dsimp only
          try trivial
        clear hKK KK hHeld
        rename _ => hHeld
        try simp only [Act.put, List.setIfInBounds_toArray, List.set_cons_zero, List.set_cons_succ]
        refine wpAnyH_take (i := 17) (v := ?_) (at_list rfl) (by kernel_rfl) (by kernel_rfl) (by kernel_rfl) (fun _ _ _ h => h) (Or.inl ⟨by rfl, ?_⟩) (by assumption) ?_
        rotate_left
        · intro w hSw
          try dsimp only at hSw
          go_simp
          try with_reducible rfl
        simp only [Act.put, List.setIfInBounds_toArray, List.set_cons_zero, List.set_cons_succ]
        refine wpAnyH_take (i := 18) (v := ?_) (at_list rfl) (by kernel_rfl) (by kernel_rfl) (by kernel_rfl) (fun _ _ _ h => h) (Or.inl ⟨by rfl, ?_⟩) (by assumption) ?_
        rotate_left
        · intro w hSw
          try dsimp only at hSw
          go_simp
          try with_reducible rfl
        simp only [Act.put, List.setIfInBounds_toArray, List.set_cons_zero, List.set_cons_succ]
        refine wpAnyH_ready (rs := [19]) (by kernel_rfl) (by simp) ?_
        refine AllReadyH.cons (at_list rfl) (fun KK hKK => ?_) AllReadyH.nil
        go_simp
        refine hKK.out _ _ ?_ (fun hHeld2 => ?_)
        · try dsimp only
          try trivial
        clear hKK KK hHeld
        rename _ => hHeld
        try simp only [Act.put, List.setIfInBounds_toArray, List.set_cons_zero, List.set_cons_succ]
        refine wpAnyH_done (by kernel_rfl) ?_ _
        refine NoPanic.normal ?_
        go_wp2_with fail
        go_end0
        exact ⟨rfl, _, HP.out⟩
    · skip
      go_simp
      refine hKK.out _ _ ?_ (fun hHeld2 => ?_)
      · try dsimp only
        try trivial
      clear hKK KK hHeld
      rename _ => hHeld
      try simp only [Act.put, List.setIfInBounds_toArray, List.set_cons_zero, List.set_cons_succ]
      refine wpAnyH_take (i := 15) (v := ?_) (at_list rfl) (by kernel_rfl) (by kernel_rfl) (by kernel_rfl) (fun _ _ _ h => h) (Or.inl ⟨by rfl, ?_⟩) (by assumption) ?_
      rotate_left
      · intro w hSw
        try dsimp only at hSw
        go_simp
        try with_reducible rfl
      simp only [Act.put, List.setIfInBounds_toArray, List.set_cons_zero, List.set_cons_succ]
      refine wpAnyH_ready (rs := [5]) (by kernel_rfl) (by simp) ?_
      refine AllReadyH.cons (at_list rfl) (fun KK hKK => ?_) AllReadyH.nil
      go_simp
      refine hKK.out _ _ ?_ (fun hHeld2 => ?_)
      · try dsimp only
        try trivial
      clear hKK KK hHeld
      rename _ => hHeld
      try simp only [Act.put, List.setIfInBounds_toArray, List.set_cons_zero, List.set_cons_succ]
      refine wpAnyH_take (i := 7) (v := ?_) (at_list rfl) (by kernel_rfl) (by kernel_rfl) (by kernel_rfl) (fun _ _ _ h => h) (Or.inl ⟨by rfl, ?_⟩) (by assumption) ?_
      rotate_left
      · intro w hSw
        try dsimp only at hSw
        go_simp
        try with_reducible rfl
      simp only [Act.put, List.setIfInBounds_toArray, List.set_cons_zero, List.set_cons_succ]
      refine wpAnyH_ready (rs := [8]) (by kernel_rfl) (by simp) ?_
      refine AllReadyH.cons (at_list rfl) (fun KK hKK => ?_) AllReadyH.nil
      refine step_append_own _ rfl (.tmp 25) (.tmp 31) 53 rfl w.heap.size 73 it (.agg #[.int .i64 0, .int .i64 0, .int .i64 0, .string ByteArray.empty, .slice none 0 0]) 5 64 Try.underlying53 ht0 ht1 ht2 ht3 rfl (by decide) (.slice (some ⟨w.heap.size, 0, none⟩) 0 0) 0 [] (by rfl) (own_empty (by repeat (first | exact qblk_new' _ _ (by first | rfl | simp) | refine qblk_drewN ?_ | refine qblk_drew ?_ | refine blk_alloc ?_ _)) (Nat.le_refl _)) ⟨g, 0, none⟩ i cap (qflat (M.ys.take i)) (by rfl) (by rw [qflat_len, List.length_take, Nat.min_eq_left HIL.out]) (QAt.news_take (H.out.quiet (by repeat (first | exact Only.refl _ _ | exact Q3.out | refine Only.drewN ?_ _ | refine Only.drew ?_ | refine Only.alloc ?_ _))) HV.out i) (qflat_one _) (by unfold maxLen; omega) (by omega) (by first | omega | (simp; done) | (simp; omega)) ?_
      intro v1 w3 hown1 hg1
      rw [Nat.zero_add, List.nil_append] at hown1
      have Q3 := Lib.hid (show Quiet w w3 from grown_base (W0 := w) (by repeat (first | exact Only.refl _ _ | exact Q3.out | refine Only.drewN ?_ _ | refine Only.drew ?_ | refine Only.alloc ?_ _)) (own_empty (size := 5) (base := w.heap.size) (by repeat (first | exact qblk_new' _ _ (by first | rfl | simp) | refine qblk_drewN ?_ | refine qblk_drew ?_ | refine blk_alloc ?_ _)) (Nat.le_refl _)) hg1)
      have HO1 := Lib.hid hown1
      obtain ⟨p3, l3⟩ := HC.out w3 Q3.out
      clear hown1 hg1
      refine hKK.out _ _ ?_ (fun hHeld2 => ?_)
      · try dsimp only
        try trivial
      clear hKK KK hHeld
      rename _ => hHeld
      try simp only [Act.put, List.setIfInBounds_toArray, List.set_cons_zero, List.set_cons_succ]
      refine wpAnyH_ready (rs := [16]) (by kernel_rfl) (by simp) ?_
      refine AllReadyH.cons (at_list rfl) (fun KK hKK => ?_) AllReadyH.nil
      refine step_append_own _ rfl (.tmp 32) (.tmp 39) 53 rfl w.heap.size 73 it (.agg #[.int .i64 0, .int .i64 0, .int .i64 0, .string ByteArray.empty, .slice none 0 0]) 5 64 Try.underlying53 ht0 ht1 ht2 ht3 rfl (by decide) v1 i (qflat (M.ys.take i)) (by rfl) HO1.out ⟨g, (i + 1) * 5, none⟩ (n - (i + 1)) (cap - (i + 1)) (qflat (M.ys.drop (i + 1))) (by rfl) (by rw [qflat_len, List.length_drop, ← HN.out]) (QAt.news_drop (H.out.quiet Q3.out) HV.out (i + 1)) (qflat_one _) (by unfold maxLen; omega) (by omega) (Only.size Q3.out) ?_
      intro v2 w4 hown2 hg2
      obtain ⟨A2, c2, hv2⟩ := row_shapeQ hown2
      subst hv2
      have Q4 := Lib.hid (show Quiet w w4 from grown_base (W0 := w) Q3.out HO1.out hg2)
      have HP := Lib.hid (tidy_row H.out HY.out HN.out HG.out Q4.out (.inr ⟨rfl, rfl⟩) hown2)
      obtain ⟨p4, l4⟩ := HC.out w4 Q4.out
      have f4 := HFZ.out w4 Q4.out
      clear hown2 hg2
      refine hKK.out _ _ ?_ (fun hHeld2 => ?_)
      · try dsimp only
        try trivial
      clear hKK KK hHeld
      rename _ => hHeld
      try simp only [Act.put, List.setIfInBounds_toArray, List.set_cons_zero, List.set_cons_succ]
      refine wpAnyH_take (i := 17) (v := ?_) (at_list rfl) (by kernel_rfl) (by kernel_rfl) (by kernel_rfl) (fun _ _ _ h => h) (Or.inl ⟨by rfl, ?_⟩) (by assumption) ?_
      rotate_left
      · intro w hSw
        try dsimp only at hSw
        go_simp
        try with_reducible rfl
      simp only [Act.put, List.setIfInBounds_toArray, List.set_cons_zero, List.set_cons_succ]
      refine wpAnyH_take (i := 18) (v := ?_) (at_list rfl) (by kernel_rfl) (by kernel_rfl) (by kernel_rfl) (fun _ _ _ h => h) (Or.inl ⟨by rfl, ?_⟩) (by assumption) ?_
      rotate_left
      · intro w hSw
        try dsimp only at hSw
        go_simp
        try with_reducible rfl
      simp only [Act.put, List.setIfInBounds_toArray, List.set_cons_zero, List.set_cons_succ]
      refine wpAnyH_ready (rs := [19]) (by kernel_rfl) (by simp) ?_
      refine AllReadyH.cons (at_list rfl) (fun KK hKK => ?_) AllReadyH.nil
      go_simp
      refine hKK.out _ _ ?_ (fun hHeld2 => ?_)
      · try dsimp only
        try trivial
      clear hKK KK hHeld
      rename _ => hHeld
      try simp only [Act.put, List.setIfInBounds_toArray, List.set_cons_zero, List.set_cons_succ]
      refine wpAnyH_done (by kernel_rfl) ?_ _
      refine NoPanic.normal ?_
      go_wp2_with fail
      go_end0
      exact ⟨rfl, _, HP.out⟩
  · skip
    go_simp
    refine hKK.out _ _ ?_ (fun hHeld2 => ?_)
    · try dsimp only
      try trivial
    clear hKK KK hHeld
    rename _ => hHeld
    try simp only [Act.put, List.setIfInBounds_toArray, List.set_cons_zero, List.set_cons_succ]
    refine wpAnyH_take (i := 7) (v := ?_) (at_list rfl) (by kernel_rfl) (by kernel_rfl) (by kernel_rfl) (fun _ _ _ h => h) (Or.inl ⟨by rfl, ?_⟩) (by assumption) ?_
    rotate_left
    · intro w hSw
      try dsimp only at hSw
      go_simp
      try with_reducible rfl
    simp only [Act.put, List.setIfInBounds_toArray, List.set_cons_zero, List.set_cons_succ]
    refine wpAnyH_ready (rs := [1, 12]) (by kernel_rfl) (by simp) ?_
    refine AllReadyH.cons (at_list rfl) (fun KK hKK => ?_) (AllReadyH.cons (at_list rfl) (fun KK hKK => ?_) AllReadyH.nil)
    · skip
      go_simp
      refine hKK.out _ _ ?_ (fun hHeld2 => ?_)
      · try dsimp only
        try trivial
      clear hKK KK hHeld
      rename _ => hHeld
      try simp only [Act.put, List.setIfInBounds_toArray, List.set_cons_zero, List.set_cons_succ]
      refine wpAnyH_ready (rs := [8, 12]) (by kernel_rfl) (by simp) ?_
      refine AllReadyH.cons (at_list rfl) (fun KK hKK => ?_) (AllReadyH.cons (at_list rfl) (fun KK hKK => ?_) AllReadyH.nil)
      · skip
        refine step_append_own _ rfl (.tmp 25) (.tmp 31) 53 rfl w.heap.size 73 it (.agg #[.int .i64 0, .int .i64 0, .int .i64 0, .string ByteArray.empty, .slice none 0 0]) 5 64 Try.underlying53 ht0 ht1 ht2 ht3 rfl (by decide) (.slice (some ⟨w.heap.size, 0, none⟩) 0 0) 0 [] (by rfl) (own_empty (by repeat (first | exact qblk_new' _ _ (by first | rfl | simp) | refine qblk_drewN ?_ | refine qblk_drew ?_ | refine blk_alloc ?_ _)) (Nat.le_refl _)) ⟨g, 0, none⟩ i cap (qflat (M.ys.take i)) (by rfl) (by rw [qflat_len, List.length_take, Nat.min_eq_left HIL.out]) (QAt.news_take (H.out.quiet (by repeat (first | exact Only.refl _ _ | exact Q3.out | refine Only.drewN ?_ _ | refine Only.drew ?_ | refine Only.alloc ?_ _))) HV.out i) (qflat_one _) (by unfold maxLen; omega) (by omega) (by first | omega | (simp; done) | (simp; omega)) ?_
        intro v1 w3 hown1 hg1
        rw [Nat.zero_add, List.nil_append] at hown1
        have Q3 := Lib.hid (show Quiet w w3 from grown_base (W0 := w) (by repeat (first | exact Only.refl _ _ | exact Q3.out | refine Only.drewN ?_ _ | refine Only.drew ?_ | refine Only.alloc ?_ _)) (own_empty (size := 5) (base := w.heap.size) (by repeat (first | exact qblk_new' _ _ (by first | rfl | simp) | refine qblk_drewN ?_ | refine qblk_drew ?_ | refine blk_alloc ?_ _)) (Nat.le_refl _)) hg1)
        have HO1 := Lib.hid hown1
        obtain ⟨p3, l3⟩ := HC.out w3 Q3.out
        clear hown1 hg1
        refine hKK.out _ _ ?_ (fun hHeld2 => ?_)
        · try dsimp only
          try trivial
        clear hKK KK hHeld
        rename _ => hHeld
        try simp only [Act.put, List.setIfInBounds_toArray, List.set_cons_zero, List.set_cons_succ]
        refine wpAnyH_ready (rs := [12]) (by kernel_rfl) (by simp) ?_
        refine AllReadyH.cons (at_list rfl) (fun KK hKK => ?_) AllReadyH.nil
        go_simp
        refine hKK.out _ _ ?_ (fun hHeld2 => ?_)
        · try dsimp only
          try trivial
        clear hKK KK hHeld
        rename _ => hHeld
        try simp only [Act.put, List.setIfInBounds_toArray, List.set_cons_zero, List.set_cons_succ]
        refine wpAnyH_take (i := 15) (v := ?_) (at_list rfl) (by kernel_rfl) (by kernel_rfl) (by kernel_rfl) (fun _ _ _ h => h) (Or.inl ⟨by rfl, ?_⟩) (by assumption) ?_
        rotate_left
        · intro w hSw
          try dsimp only at hSw
          go_simp
          try with_reducible rfl
        simp only [Act.put, List.setIfInBounds_toArray, List.set_cons_zero, List.set_cons_succ]
        refine wpAnyH_ready (rs := [16]) (by kernel_rfl) (by simp) ?_
        refine AllReadyH.cons (at_list rfl) (fun KK hKK => ?_) AllReadyH.nil
        refine step_append_own _ rfl (.tmp 32) (.tmp 39) 53 rfl w.heap.size 73 it (.agg #[.int .i64 0, .int .i64 0, .int .i64 0, .string ByteArray.empty, .slice none 0 0]) 5 64 Try.underlying53 ht0 ht1 ht2 ht3 rfl (by decide) v1 i (qflat (M.ys.take i)) (by rfl) HO1.out ⟨g, (i + 1) * 5, none⟩ (n - (i + 1)) (cap - (i + 1)) (qflat (M.ys.drop (i + 1))) (by rfl) (by rw [qflat_len, List.length_drop, ← HN.out]) (QAt.news_drop (H.out.quiet Q3.out) HV.out (i + 1)) (qflat_one _) (by unfold maxLen; omega) (by omega) (Only.size Q3.out) ?_
        intro v2 w4 hown2 hg2
        obtain ⟨A2, c2, hv2⟩ := row_shapeQ hown2
        subst hv2
        have Q4 := Lib.hid (show Quiet w w4 from grown_base (W0 := w) Q3.out HO1.out hg2)
        have HP := Lib.hid (tidy_row H.out HY.out HN.out HG.out Q4.out (.inr ⟨rfl, rfl⟩) hown2)
        obtain ⟨p4, l4⟩ := HC.out w4 Q4.out
        have f4 := HFZ.out w4 Q4.out
        clear hown2 hg2
        refine hKK.out _ _ ?_ (fun hHeld2 => ?_)
        · try dsimp only
          try trivial
        clear hKK KK hHeld
        rename _ => hHeld
        try simp only [Act.put, List.setIfInBounds_toArray, List.set_cons_zero, List.set_cons_succ]
        refine wpAnyH_take (i := 17) (v := ?_) (at_list rfl) (by kernel_rfl) (by kernel_rfl) (by kernel_rfl) (fun _ _ _ h => h) (Or.inl ⟨by rfl, ?_⟩) (by assumption) ?_
        rotate_left
        · intro w hSw
          try dsimp only at hSw
          go_simp
          try with_reducible rfl
        simp only [Act.put, List.setIfInBounds_toArray, List.set_cons_zero, List.set_cons_succ]
        refine wpAnyH_take (i := 18) (v := ?_) (at_list rfl) (by kernel_rfl) (by kernel_rfl) (by kernel_rfl) (fun _ _ _ h => h) (Or.inl ⟨by rfl, ?_⟩) (by assumption) ?_
        rotate_left
        · intro w hSw
          try dsimp only at hSw
          go_simp
          try with_reducible rfl
        simp only [Act.put, List.setIfInBounds_toArray, List.set_cons_zero, List.set_cons_succ]
        refine wpAnyH_ready (rs := [19]) (by kernel_rfl) (by simp) ?_
        refine AllReadyH.cons (at_list rfl) (fun KK hKK => ?_) AllReadyH.nil
        go_simp
        refine hKK.out _ _ ?_ (fun hHeld2 => ?_)
        · try dsimp only
          try trivial
        clear hKK KK hHeld
        rename _ => hHeld
        try simp only [Act.put, List.setIfInBounds_toArray, List.set_cons_zero, List.set_cons_succ]
        refine wpAnyH_done (by kernel_rfl) ?_ _
        refine NoPanic.normal ?_
        go_wp2_with fail
        go_end0
        exact ⟨rfl, _, HP.out⟩
      · skip
        go_simp
        refine hKK.out _ _ ?_ (fun hHeld2 => ?_)
        · try dsimp only
          try trivial
        clear hKK KK hHeld
        rename _ => hHeld
        try simp only [Act.put, List.setIfInBounds_toArray, List.set_cons_zero, List.set_cons_succ]
        refine wpAnyH_take (i := 15) (v := ?_) (at_list rfl) (by kernel_rfl) (by kernel_rfl) (by kernel_rfl) (fun _ _ _ h => h) (Or.inl ⟨by rfl, ?_⟩) (by assumption) ?_
        rotate_left
        · intro w hSw
          try dsimp only at hSw
          go_simp
          try with_reducible rfl
        simp only [Act.put, List.setIfInBounds_toArray, List.set_cons_zero, List.set_cons_succ]
        refine wpAnyH_ready (rs := [8]) (by kernel_rfl) (by simp) ?_
        refine AllReadyH.cons (at_list rfl) (fun KK hKK => ?_) AllReadyH.nil
        refine step_append_own _ rfl (.tmp 25) (.tmp 31) 53 rfl w.heap.size 73 it (.agg #[.int .i64 0, .int .i64 0, .int .i64 0, .string ByteArray.empty, .slice none 0 0]) 5 64 Try.underlying53 ht0 ht1 ht2 ht3 rfl (by decide) (.slice (some ⟨w.heap.size, 0, none⟩) 0 0) 0 [] (by rfl) (own_empty (by repeat (first | exact qblk_new' _ _ (by first | rfl | simp) | refine qblk_drewN ?_ | refine qblk_drew ?_ | refine blk_alloc ?_ _)) (Nat.le_refl _)) ⟨g, 0, none⟩ i cap (qflat (M.ys.take i)) (by rfl) (by rw [qflat_len, List.length_take, Nat.min_eq_left HIL.out]) (QAt.news_take (H.out.quiet (by repeat (first | exact Only.refl _ _ | exact Q3.out | refine Only.drewN ?_ _ | refine Only.drew ?_ | refine Only.alloc ?_ _))) HV.out i) (qflat_one _) (by unfold maxLen; omega) (by omega) (by first | omega | (simp; done) | (simp; omega)) ?_
        intro v1 w3 hown1 hg1
        rw [Nat.zero_add, List.nil_append] at hown1
        have Q3 := Lib.hid (show Quiet w w3 from grown_base (W0 := w) (by repeat (first | exact Only.refl _ _ | exact Q3.out | refine Only.drewN ?_ _ | refine Only.drew ?_ | refine Only.alloc ?_ _)) (own_empty (size := 5) (base := w.heap.size) (by repeat (first | exact qblk_new' _ _ (by first | rfl | simp) | refine qblk_drewN ?_ | refine qblk_drew ?_ | refine blk_alloc ?_ _)) (Nat.le_refl _)) hg1)
        have HO1 := Lib.hid hown1
        obtain ⟨p3, l3⟩ := HC.out w3 Q3.out
        clear hown1 hg1
        refine hKK.out _ _ ?_ (fun hHeld2 => ?_)
        · try dsimp only
          try trivial
        clear hKK KK hHeld
        rename _ => hHeld
        try simp only [Act.put, List.setIfInBounds_toArray, List.set_cons_zero, List.set_cons_succ]
        refine wpAnyH_ready (rs := [16]) (by kernel_rfl) (by simp) ?_
        refine AllReadyH.cons (at_list rfl) (fun KK hKK => ?_) AllReadyH.nil
        refine step_append_own _ rfl (.tmp 32) (.tmp 39) 53 rfl w.heap.size 73 it (.agg #[.int .i64 0, .int .i64 0, .int .i64 0, .string ByteArray.empty, .slice none 0 0]) 5 64 Try.underlying53 ht0 ht1 ht2 ht3 rfl (by decide) v1 i (qflat (M.ys.take i)) (by rfl) HO1.out ⟨g, (i + 1) * 5, none⟩ (n - (i + 1)) (cap - (i + 1)) (qflat (M.ys.drop (i + 1))) (by rfl) (by rw [qflat_len, List.length_drop, ← HN.out]) (QAt.news_drop (H.out.quiet Q3.out) HV.out (i + 1)) (qflat_one _) (by unfold maxLen; omega) (by omega) (Only.size Q3.out) ?_
        intro v2 w4 hown2 hg2
        obtain ⟨A2, c2, hv2⟩ := row_shapeQ hown2
        subst hv2
        have Q4 := Lib.hid (show Quiet w w4 from grown_base (W0 := w) Q3.out HO1.out hg2)
        have HP := Lib.hid (tidy_row H.out HY.out HN.out HG.out Q4.out (.inr ⟨rfl, rfl⟩) hown2)
        obtain ⟨p4, l4⟩ := HC.out w4 Q4.out
        have f4 := HFZ.out w4 Q4.out
        clear hown2 hg2
        refine hKK.out _ _ ?_ (fun hHeld2 => ?_)
        · try dsimp only
          try trivial
        clear hKK KK hHeld
        rename _ => hHeld
        try simp only [Act.put, List.setIfInBounds_toArray, List.set_cons_zero, List.set_cons_succ]
        refine wpAnyH_take (i := 17) (v := ?_) (at_list rfl) (by kernel_rfl) (by kernel_rfl) (by kernel_rfl) (fun _ _ _ h => h) (Or.inl ⟨by rfl, ?_⟩) (by assumption) ?_
        rotate_left
        · intro w hSw
          try dsimp only at hSw
          go_simp
          try with_reducible rfl
        simp only [Act.put, List.setIfInBounds_toArray, List.set_cons_zero, List.set_cons_succ]
        refine wpAnyH_take (i := 18) (v := ?_) (at_list rfl) (by kernel_rfl) (by kernel_rfl) (by kernel_rfl) (fun _ _ _ h => h) (Or.inl ⟨by rfl, ?_⟩) (by assumption) ?_
        rotate_left
        · intro w hSw
          try dsimp only at hSw
          go_simp
          try with_reducible rfl
        simp only [Act.put, List.setIfInBounds_toArray, List.set_cons_zero, List.set_cons_succ]
        refine wpAnyH_ready (rs := [19]) (by kernel_rfl) (by simp) ?_
        refine AllReadyH.cons (at_list rfl) (fun KK hKK => ?_) AllReadyH.nil
        go_simp
        refine hKK.out _ _ ?_ (fun hHeld2 => ?_)
        · try dsimp only
          try trivial
        clear hKK KK hHeld
        rename _ => hHeld
        try simp only [Act.put, List.setIfInBounds_toArray, List.set_cons_zero, List.set_cons_succ]
        refine wpAnyH_done (by kernel_rfl) ?_ _
        refine NoPanic.normal ?_
        go_wp2_with fail
        go_end0
        exact ⟨rfl, _, HP.out⟩
    · skip
      go_simp
      refine hKK.out _ _ ?_ (fun hHeld2 => ?_)
      · try dsimp only
        try trivial
      clear hKK KK hHeld
      rename _ => hHeld
      try simp only [Act.put, List.setIfInBounds_toArray, List.set_cons_zero, List.set_cons_succ]
      refine wpAnyH_take (i := 15) (v := ?_) (at_list rfl) (by kernel_rfl) (by kernel_rfl) (by kernel_rfl) (fun _ _ _ h => h) (Or.inl ⟨by rfl, ?_⟩) (by assumption) ?_
      rotate_left
      · intro w hSw
        try dsimp only at hSw
        go_simp
        try with_reducible rfl
      simp only [Act.put, List.setIfInBounds_toArray, List.set_cons_zero, List.set_cons_succ]
      refine wpAnyH_ready (rs := [1]) (by kernel_rfl) (by simp) ?_
      refine AllReadyH.cons (at_list rfl) (fun KK hKK => ?_) AllReadyH.nil
      go_simp
      refine hKK.out _ _ ?_ (fun hHeld2 => ?_)
      · try dsimp only
        try trivial
      clear hKK KK hHeld
      rename _ => hHeld
      try simp only [Act.put, List.setIfInBounds_toArray, List.set_cons_zero, List.set_cons_succ]
      refine wpAnyH_ready (rs := [8]) (by kernel_rfl) (by simp) ?_
      refine AllReadyH.cons (at_list rfl) (fun KK hKK => ?_) AllReadyH.nil
      refine step_append_own _ rfl (.tmp 25) (.tmp 31) 53 rfl w.heap.size 73 it (.agg #[.int .i64 0, .int .i64 0, .int .i64 0, .string ByteArray.empty, .slice none 0 0]) 5 64 Try.underlying53 ht0 ht1 ht2 ht3 rfl (by decide) (.slice (some ⟨w.heap.size, 0, none⟩) 0 0) 0 [] (by rfl) (own_empty (by repeat (first | exact qblk_new' _ _ (by first | rfl | simp) | refine qblk_drewN ?_ | refine qblk_drew ?_ | refine blk_alloc ?_ _)) (Nat.le_refl _)) ⟨g, 0, none⟩ i cap (qflat (M.ys.take i)) (by rfl) (by rw [qflat_len, List.length_take, Nat.min_eq_left HIL.out]) (QAt.news_take (H.out.quiet (by repeat (first | exact Only.refl _ _ | exact Q3.out | refine Only.drewN ?_ _ | refine Only.drew ?_ | refine Only.alloc ?_ _))) HV.out i) (qflat_one _) (by unfold maxLen; omega) (by omega) (by first | omega | (simp; done) | (simp; omega)) ?_
      intro v1 w3 hown1 hg1
      rw [Nat.zero_add, List.nil_append] at hown1
      have Q3 := Lib.hid (show Quiet w w3 from grown_base (W0 := w) (by repeat (first | exact Only.refl _ _ | exact Q3.out | refine Only.drewN ?_ _ | refine Only.drew ?_ | refine Only.alloc ?_ _)) (own_empty (size := 5) (base := w.heap.size) (by repeat (first | exact qblk_new' _ _ (by first | rfl | simp) | refine qblk_drewN ?_ | refine qblk_drew ?_ | refine blk_alloc ?_ _)) (Nat.le_refl _)) hg1)
      have HO1 := Lib.hid hown1
      obtain ⟨p3, l3⟩ := HC.out w3 Q3.out
      clear hown1 hg1
      refine hKK.out _ _ ?_ (fun hHeld2 => ?_)
      · try dsimp only
        try trivial
      clear hKK KK hHeld
      rename _ => hHeld
      try simp only [Act.put, List.setIfInBounds_toArray, List.set_cons_zero, List.set_cons_succ]
      refine wpAnyH_ready (rs := [16]) (by kernel_rfl) (by simp) ?_
      refine AllReadyH.cons (at_list rfl) (fun KK hKK => ?_) AllReadyH.nil
      refine step_append_own _ rfl (.tmp 32) (.tmp 39) 53 rfl w.heap.size 73 it (.agg #[.int .i64 0, .int .i64 0, .int .i64 0, .string ByteArray.empty, .slice none 0 0]) 5 64 Try.underlying53 ht0 ht1 ht2 ht3 rfl (by decide) v1 i (qflat (M.ys.take i)) (by rfl) HO1.out ⟨g, (i + 1) * 5, none⟩ (n - (i + 1)) (cap - (i + 1)) (qflat (M.ys.drop (i + 1))) (by rfl) (by rw [qflat_len, List.length_drop, ← HN.out]) (QAt.news_drop (H.out.quiet Q3.out) HV.out (i + 1)) (qflat_one _) (by unfold maxLen; omega) (by omega) (Only.size Q3.out) ?_
      intro v2 w4 hown2 hg2
      obtain ⟨A2, c2, hv2⟩ := row_shapeQ hown2
      subst hv2
      have Q4 := Lib.hid (show Quiet w w4 from grown_base (W0 := w) Q3.out HO1.out hg2)
      have HP := Lib.hid (tidy_row H.out HY.out HN.out HG.out Q4.out (.inr ⟨rfl, rfl⟩) hown2)
      obtain ⟨p4, l4⟩ := HC.out w4 Q4.out
      have f4 := HFZ.out w4 Q4.out
      clear hown2 hg2
      refine hKK.out _ _ ?_ (fun hHeld2 => ?_)
      · try dsimp only
        try trivial
      clear hKK KK hHeld
      rename _ => hHeld
      try simp only [Act.put, List.setIfInBounds_toArray, List.set_cons_zero, List.set_cons_succ]
      refine wpAnyH_take (i := 17) (v := ?_) (at_list rfl) (by kernel_rfl) (by kernel_rfl) (by kernel_rfl) (fun _ _ _ h => h) (Or.inl ⟨by rfl, ?_⟩) (by assumption) ?_
      rotate_left
      · intro w hSw
        try dsimp only at hSw
        go_simp
        try with_reducible rfl
      simp only [Act.put, List.setIfInBounds_toArray, List.set_cons_zero, List.set_cons_succ]
      refine wpAnyH_take (i := 18) (v := ?_) (at_list rfl) (by kernel_rfl) (by kernel_rfl) (by kernel_rfl) (fun _ _ _ h => h) (Or.inl ⟨by rfl, ?_⟩) (by assumption) ?_
      rotate_left
      · intro w hSw
        try dsimp only at hSw
        go_simp
        try with_reducible rfl
      simp only [Act.put, List.setIfInBounds_toArray, List.set_cons_zero, List.set_cons_succ]
      refine wpAnyH_ready (rs := [19]) (by kernel_rfl) (by simp) ?_
      refine AllReadyH.cons (at_list rfl) (fun KK hKK => ?_) AllReadyH.nil
      go_simp
      refine hKK.out _ _ ?_ (fun hHeld2 => ?_)
      · try dsimp only
        try trivial
      clear hKK KK hHeld
      rename _ => hHeld
      try simp only [Act.put, List.setIfInBounds_toArray, List.set_cons_zero, List.set_cons_succ]
      refine wpAnyH_done (by kernel_rfl) ?_ _
      refine NoPanic.normal ?_
      go_wp2_with fail
      go_end0
      exact ⟨rfl, _, HP.out⟩
  · skip
    go_simp
    refine hKK.out _ _ ?_ (fun hHeld2 => ?_)
    · try dsimp only
      try trivial
    clear hKK KK hHeld
    rename _ => hHeld
    try simp only [Act.put, List.setIfInBounds_toArray, List.set_cons_zero, List.set_cons_succ]
    refine wpAnyH_take (i := 15) (v := ?_) (at_list rfl) (by kernel_rfl) (by kernel_rfl) (by kernel_rfl) (fun _ _ _ h => h) (Or.inl ⟨by rfl, ?_⟩) (by assumption) ?_
    rotate_left
    · intro w hSw
      try dsimp only at hSw
      go_simp
      try with_reducible rfl
    simp only [Act.put, List.setIfInBounds_toArray, List.set_cons_zero, List.set_cons_succ]
    refine wpAnyH_ready (rs := [1, 5]) (by kernel_rfl) (by simp) ?_
    refine AllReadyH.cons (at_list rfl) (fun KK hKK => ?_) (AllReadyH.cons (at_list rfl) (fun KK hKK => ?_) AllReadyH.nil)
    · skip
      go_simp
      refine hKK.out _ _ ?_ (fun hHeld2 => ?_)
      · try dsimp only
        try trivial
      clear hKK KK hHeld
      rename _ => hHeld
      try simp only [Act.put, List.setIfInBounds_toArray, List.set_cons_zero, List.set_cons_succ]
      refine wpAnyH_ready (rs := [5]) (by kernel_rfl) (by simp) ?_
      refine AllReadyH.cons (at_list rfl) (fun KK hKK => ?_) AllReadyH.nil
      go_simp
      refine hKK.out _ _ ?_ (fun hHeld2 => ?_)
      · try dsimp only
        try trivial
      clear hKK KK hHeld
      rename _ => hHeld
      try simp only [Act.put, List.setIfInBounds_toArray, List.set_cons_zero, List.set_cons_succ]
      refine wpAnyH_take (i := 7) (v := ?_) (at_list rfl) (by kernel_rfl) (by kernel_rfl) (by kernel_rfl) (fun _ _ _ h => h) (Or.inl ⟨by rfl, ?_⟩) (by assumption) ?_
      rotate_left
      · intro w hSw
        try dsimp only at hSw
        go_simp
        try with_reducible rfl
      simp only [Act.put, List.setIfInBounds_toArray, List.set_cons_zero, List.set_cons_succ]
      refine wpAnyH_ready (rs := [8]) (by kernel_rfl) (by simp) ?_
      refine AllReadyH.cons (at_list rfl) (fun KK hKK => ?_) AllReadyH.nil
      refine step_append_own _ rfl (.tmp 25) (.tmp 31) 53 rfl w.heap.size 73 it (.agg #[.int .i64 0, .int .i64 0, .int .i64 0, .string ByteArray.empty, .slice none 0 0]) 5 64 Try.underlying53 ht0 ht1 ht2 ht3 rfl (by decide) (.slice (some ⟨w.heap.size, 0, none⟩) 0 0) 0 [] (by rfl) (own_empty (by repeat (first | exact qblk_new' _ _ (by first | rfl | simp) | refine qblk_drewN ?_ | refine qblk_drew ?_ | refine blk_alloc ?_ _)) (Nat.le_refl _)) ⟨g, 0, none⟩ i cap (qflat (M.ys.take i)) (by rfl) (by rw [qflat_len, List.length_take, Nat.min_eq_left HIL.out]) (QAt.news_take (H.out.quiet (by repeat (first | exact Only.refl _ _ | exact Q3.out | refine Only.drewN ?_ _ | refine Only.drew ?_ | refine Only.alloc ?_ _))) HV.out i) (qflat_one _) (by unfold maxLen; omega) (by omega) (by first | omega | (simp; done) | (simp; omega)) ?_
      intro v1 w3 hown1 hg1
      rw [Nat.zero_add, List.nil_append] at hown1
      have Q3 := Lib.hid (show Quiet w w3 from grown_base (W0 := w) (by repeat (first | exact Only.refl _ _ | exact Q3.out | refine Only.drewN ?_ _ | refine Only.drew ?_ | refine Only.alloc ?_ _)) (own_empty (size := 5) (base := w.heap.size) (by repeat (first | exact qblk_new' _ _ (by first | rfl | simp) | refine qblk_drewN ?_ | refine qblk_drew ?_ | refine blk_alloc ?_ _)) (Nat.le_refl _)) hg1)
      have HO1 := Lib.hid hown1
      obtain ⟨p3, l3⟩ := HC.out w3 Q3.out
      clear hown1 hg1
      refine hKK.out _ _ ?_ (fun hHeld2 => ?_)
      · try dsimp only
        try trivial
      clear hKK KK hHeld
      rename _ => hHeld
      try simp only [Act.put, List.setIfInBounds_toArray, List.set_cons_zero, List.set_cons_succ]
      refine wpAnyH_ready (rs := [16]) (by kernel_rfl) (by simp) ?_
      refine AllReadyH.cons (at_list rfl) (fun KK hKK => ?_) AllReadyH.nil
      refine step_append_own _ rfl (.tmp 32) (.tmp 39) 53 rfl w.heap.size 73 it (.agg #[.int .i64 0, .int .i64 0, .int .i64 0, .string ByteArray.empty, .slice none 0 0]) 5 64 Try.underlying53 ht0 ht1 ht2 ht3 rfl (by decide) v1 i (qflat (M.ys.take i)) (by rfl) HO1.out ⟨g, (i + 1) * 5, none⟩ (n - (i + 1)) (cap - (i + 1)) (qflat (M.ys.drop (i + 1))) (by rfl) (by rw [qflat_len, List.length_drop, ← HN.out]) (QAt.news_drop (H.out.quiet Q3.out) HV.out (i + 1)) (qflat_one _) (by unfold maxLen; omega) (by omega) (Only.size Q3.out) ?_
      intro v2 w4 hown2 hg2
      obtain ⟨A2, c2, hv2⟩ := row_shapeQ hown2
      subst hv2
      have Q4 := Lib.hid (show Quiet w w4 from grown_base (W0 := w) Q3.out HO1.out hg2)
      have HP := Lib.hid (tidy_row H.out HY.out HN.out HG.out Q4.out (.inr ⟨rfl, rfl⟩) hown2)
      obtain ⟨p4, l4⟩ := HC.out w4 Q4.out
      have f4 := HFZ.out w4 Q4.out
      clear hown2 hg2
      refine hKK.out _ _ ?_ (fun hHeld2 => ?_)
      · try dsimp only
        try trivial
      clear hKK KK hHeld
      rename _ => hHeld
      try simp only [Act.put, List.setIfInBounds_toArray, List.set_cons_zero, List.set_cons_succ]
      refine wpAnyH_take (i := 17) (v := ?_) (at_list rfl) (by kernel_rfl) (by kernel_rfl) (by kernel_rfl) (fun _ _ _ h => h) (Or.inl ⟨by rfl, ?_⟩) (by assumption) ?_
      rotate_left
      · intro w hSw
        try dsimp only at hSw
        go_simp
        try with_reducible rfl
      simp only [Act.put, List.setIfInBounds_toArray, List.set_cons_zero, List.set_cons_succ]
      refine wpAnyH_take (i := 18) (v := ?_) (at_list rfl) (by kernel_rfl) (by kernel_rfl) (by kernel_rfl) (fun _ _ _ h => h) (Or.inl ⟨by rfl, ?_⟩) (by assumption) ?_
      rotate_left
      · intro w hSw
        try dsimp only at hSw
        go_simp
        try with_reducible rfl
      simp only [Act.put, List.setIfInBounds_toArray, List.set_cons_zero, List.set_cons_succ]
      refine wpAnyH_ready (rs := [19]) (by kernel_rfl) (by simp) ?_
      refine AllReadyH.cons (at_list rfl) (fun KK hKK => ?_) AllReadyH.nil
      go_simp
      refine hKK.out _ _ ?_ (fun hHeld2 => ?_)
      · try dsimp only
        try trivial
      clear hKK KK hHeld
      rename _ => hHeld
      try simp only [Act.put, List.setIfInBounds_toArray, List.set_cons_zero, List.set_cons_succ]
      refine wpAnyH_done (by kernel_rfl) ?_ _
      refine NoPanic.normal ?_
      go_wp2_with fail
      go_end0
      exact ⟨rfl, _, HP.out⟩
    · skip
      go_simp
      refine hKK.out _ _ ?_ (fun hHeld2 => ?_)
      · try dsimp only
        try trivial
      clear hKK KK hHeld
      rename _ => hHeld
      try simp only [Act.put, List.setIfInBounds_toArray, List.set_cons_zero, List.set_cons_succ]
      refine wpAnyH_take (i := 7) (v := ?_) (at_list rfl) (by kernel_rfl) (by kernel_rfl) (by kernel_rfl) (fun _ _ _ h => h) (Or.inl ⟨by rfl, ?_⟩) (by assumption) ?_
      rotate_left
      · intro w hSw
        try dsimp only at hSw
        go_simp
        try with_reducible rfl
      simp only [Act.put, List.setIfInBounds_toArray, List.set_cons_zero, List.set_cons_succ]
      refine wpAnyH_ready (rs := [1]) (by kernel_rfl) (by simp) ?_
      refine AllReadyH.cons (at_list rfl) (fun KK hKK => ?_) AllReadyH.nil
      go_simp
      refine hKK.out _ _ ?_ (fun hHeld2 => ?_)
      · try dsimp only
        try trivial
      clear hKK KK hHeld
      rename _ => hHeld
      try simp only [Act.put, List.setIfInBounds_toArray, List.set_cons_zero, List.set_cons_succ]
      refine wpAnyH_ready (rs := [8]) (by kernel_rfl) (by simp) ?_
      refine AllReadyH.cons (at_list rfl) (fun KK hKK => ?_) AllReadyH.nil
      refine step_append_own _ rfl (.tmp 25) (.tmp 31) 53 rfl w.heap.size 73 it (.agg #[.int .i64 0, .int .i64 0, .int .i64 0, .string ByteArray.empty, .slice none 0 0]) 5 64 Try.underlying53 ht0 ht1 ht2 ht3 rfl (by decide) (.slice (some ⟨w.heap.size, 0, none⟩) 0 0) 0 [] (by rfl) (own_empty (by repeat (first | exact qblk_new' _ _ (by first | rfl | simp) | refine qblk_drewN ?_ | refine qblk_drew ?_ | refine blk_alloc ?_ _)) (Nat.le_refl _)) ⟨g, 0, none⟩ i cap (qflat (M.ys.take i)) (by rfl) (by rw [qflat_len, List.length_take, Nat.min_eq_left HIL.out]) (QAt.news_take (H.out.quiet (by repeat (first | exact Only.refl _ _ | exact Q3.out | refine Only.drewN ?_ _ | refine Only.drew ?_ | refine Only.alloc ?_ _))) HV.out i) (qflat_one _) (by unfold maxLen; omega) (by omega) (by first | omega | (simp; done) | (simp; omega)) ?_
      intro v1 w3 hown1 hg1
      rw [Nat.zero_add, List.nil_append] at hown1
      have Q3 := Lib.hid (show Quiet w w3 from grown_base (W0 := w) (by repeat (first | exact Only.refl _ _ | exact Q3.out | refine Only.drewN ?_ _ | refine Only.drew ?_ | refine Only.alloc ?_ _)) (own_empty (size := 5) (base := w.heap.size) (by repeat (first | exact qblk_new' _ _ (by first | rfl | simp) | refine qblk_drewN ?_ | refine qblk_drew ?_ | refine blk_alloc ?_ _)) (Nat.le_refl _)) hg1)
      have HO1 := Lib.hid hown1
      obtain ⟨p3, l3⟩ := HC.out w3 Q3.out
      clear hown1 hg1
      refine hKK.out _ _ ?_ (fun hHeld2 => ?_)
      · try dsimp only
        try trivial
      clear hKK KK hHeld
      rename _ => hHeld
      try simp only [Act.put, List.setIfInBounds_toArray, List.set_cons_zero, List.set_cons_succ]
      refine wpAnyH_ready (rs := [16]) (by kernel_rfl) (by simp) ?_
      refine AllReadyH.cons (at_list rfl) (fun KK hKK => ?_) AllReadyH.nil
      refine step_append_own _ rfl (.tmp 32) (.tmp 39) 53 rfl w.heap.size 73 it (.agg #[.int .i64 0, .int .i64 0, .int .i64 0, .string ByteArray.empty, .slice none 0 0]) 5 64 Try.underlying53 ht0 ht1 ht2 ht3 rfl (by decide) v1 i (qflat (M.ys.take i)) (by rfl) HO1.out ⟨g, (i + 1) * 5, none⟩ (n - (i + 1)) (cap - (i + 1)) (qflat (M.ys.drop (i + 1))) (by rfl) (by rw [qflat_len, List.length_drop, ← HN.out]) (QAt.news_drop (H.out.quiet Q3.out) HV.out (i + 1)) (qflat_one _) (by unfold maxLen; omega) (by omega) (Only.size Q3.out) ?_
      intro v2 w4 hown2 hg2
      obtain ⟨A2, c2, hv2⟩ := row_shapeQ hown2
      subst hv2
      have Q4 := Lib.hid (show Quiet w w4 from grown_base (W0 := w) Q3.out HO1.out hg2)
      have HP := Lib.hid (tidy_row H.out HY.out HN.out HG.out Q4.out (.inr ⟨rfl, rfl⟩) hown2)
      obtain ⟨p4, l4⟩ := HC.out w4 Q4.out
      have f4 := HFZ.out w4 Q4.out
      clear hown2 hg2
      refine hKK.out _ _ ?_ (fun hHeld2 => ?_)
      · try dsimp only
        try trivial
      clear hKK KK hHeld
      rename _ => hHeld
      try simp only [Act.put, List.setIfInBounds_toArray, List.set_cons_zero, List.set_cons_succ]
      refine wpAnyH_take (i := 17) (v := ?_) (at_list rfl) (by kernel_rfl) (by kernel_rfl) (by kernel_rfl) (fun _ _ _ h => h) (Or.inl ⟨by rfl, ?_⟩) (by assumption) ?_
      rotate_left
      · intro w hSw
        try dsimp only at hSw
        go_simp
        try with_reducible rfl
      simp only [Act.put, List.setIfInBounds_toArray, List.set_cons_zero, List.set_cons_succ]
      refine wpAnyH_take (i := 18) (v := ?_) (at_list rfl) (by kernel_rfl) (by kernel_rfl) (by kernel_rfl) (fun _ _ _ h => h) (Or.inl ⟨by rfl, ?_⟩) (by assumption) ?_
      rotate_left
      · intro w hSw
        try dsimp only at hSw
        go_simp
        try with_reducible rfl
      simp only [Act.put, List.setIfInBounds_toArray, List.set_cons_zero, List.set_cons_succ]
      refine wpAnyH_ready (rs := [19]) (by kernel_rfl) (by simp) ?_
      refine AllReadyH.cons (at_list rfl) (fun KK hKK => ?_) AllReadyH.nil
      go_simp
      refine hKK.out _ _ ?_ (fun hHeld2 => ?_)
      · try dsimp only
        try trivial
      clear hKK KK hHeld
      rename _ => hHeld
      try simp only [Act.put, List.setIfInBounds_toArray, List.set_cons_zero, List.set_cons_succ]
      refine wpAnyH_done (by kernel_rfl) ?_ _
      refine NoPanic.normal ?_
      go_wp2_with fail
      go_end0
      exact ⟨rfl, _, HP.out⟩
theorem qtidy {w : World} {M : QMem} {d : Desk} (h : QAt w M d) {i : Nat} {y : QF} (hy : M.ys[i]? = some y) :
    Calls Try.prog 31 #[.pointer (some ⟨M.p, 0, none⟩), .int .i64 (i : Int)] w fun x w' => x = .returned (.tuple #[]) ∧ ∃ M', QAt w' M' { d with js := tidy d.js i } ∧ QStep w w' M M' := by
  by_cases hg : y.2.2.state ≠ 0 ∧ y.2.2.part = 0
  · obtain ⟨g, cap, hv, _⟩ := h.cells hy
    by_cases hc : cap = i + 1
    · exact qtidy_gone1 h hy hg.1 hg.2 hv hc
    · exact qtidy_gone2 h hy hg.1 hg.2 hv hc
  · refine (qtidy_keep h hy hg).mono ?_
    rintro x w' ⟨rfl, hq⟩
    refine ⟨rfl, M, ?_, QStep.refl M hq⟩
    rw [tidy_js (h.job hy), if_neg hg]
    exact h.quiet hq
end Go.Proofs.Ytffockkdiimneaa
