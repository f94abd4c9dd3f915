/-
  What the program's Read does where there is something to read. No conditions.
-/
import Derived.Test.YtffockkdiimneaaRead
import Derived.Deep.RegionHeld3
namespace Go.Proofs.Ytffockkdiimneaa
open Go.RowKit Go.MapKept
set_option linter.unusedVariables false
set_option linter.unusedSimpArgs false

/-- The world in which Read copies: the boxes, and the fill as it was. -/
structure RBox (w W : World) (D : DMem) (m : JMem) (e : Nat × Job) (a n : Nat) : Prop where
  q : Quiet w W
  hs : W.heap.size = w.heap.size + 1 + 1 + 1 + 1
  b0 : W.cell? ⟨w.heap.size, 0, none⟩ = some (.int .i64 (a : Int))
  b1 : W.cell? ⟨w.heap.size + 1, 0, none⟩ = some (.int .i64 (n : Int))
  b2 : W.cell? ⟨w.heap.size + 1 + 1, 0, none⟩ = some (.slice none 0 0)
  b3 : W.cell? ⟨w.heap.size + 1 + 1 + 1, 0, none⟩ = some (.int .i64 0)
  f2 : W.frozen? ⟨w.heap.size + 1 + 1, 0, none⟩ = false
  f3 : W.frozen? ⟨w.heap.size + 1 + 1 + 1, 0, none⟩ = false
theorem Sl.empty {w : World} {e : TypeId} {g : Nat} {cur : Array Value} (h : w.heap[g]? = some (.cells cur e (0, 0))) : Sl w e (some ⟨g, 0, none⟩) 0 0 [] := ⟨rfl, .inr ⟨g, 0, cur, rfl, h, Nat.le_refl _, by omega, Nat.zero_le _, fun i x hx => by simp at hx⟩⟩
theorem blk_new' (w : World) (o : Obj) {g : Nat} (h : g = w.heap.size) : (w.alloc o).heap[g]? = some o := h ▸ blk_new w o
theorem blk_drew {w : World} {g : Nat} {x : Option Obj} (h : w.heap[g]? = x) : w.drew.heap[g]? = x := h
theorem none_len {w : World} {e : TypeId} {n c : Nat} {xs : List Value} {A : Option Addr} (h : Sl w e A n c xs) {k : Nat} (hk : k ≤ n) : A = none → k = 0 := fun e => by
  rcases h.2 with ⟨_, h1, _⟩ | ⟨g, off, cur, h1, _⟩
  · omega
  · rw [e] at h1; cases h1
/-- What is copied. -/
theorem part_sl {w : World} {m : JMem} {j : Job} {a K : Nat} (h : JobAt w m j) (hK : a + K ≤ j.bytes.length) : Sl w 5 (if m.c = a then m.A else m.A.map (·.add a)) K (m.c - a) (bytes ((j.bytes.drop a).take K)) := by
  have := (h.sl.cut (m := a) (by omega)).take (m := K) (by omega)
  rwa [bytes_drop, bytes_take] at this
theorem part_len {l : List UInt8} {a K : Nat} (h : a + K ≤ l.length) : (bytes ((l.drop a).take K)).length = K := by
  rw [bytes_len, List.length_take, List.length_drop]
  omega
theorem far_keep {W Wx w' : World} {g : Nat} (hx : Quiet W Wx) (hon : Only (RowOf (some ⟨g, 0, none⟩)) Wx w') (hg : W.heap.size ≤ g) : Only (fun k => W.heap.size ≤ k) W w' :=
  (hx.mono (fun _ _ x => x.elim)).trans (hon.mono fun k _ ⟨a, h, e⟩ => by obtain rfl := Option.some.inj h; simp at e; omega)
theorem Only.quiet_of {W w w' : World} (h : Only (fun k => W.heap.size ≤ k) W w') (hq : Quiet w W) : Quiet w w' :=
  ⟨h.os.trans hq.os, h.tape.trans hq.tape, h.output.trans hq.output, Nat.le_trans hq.size h.size, fun k hk hs => (h.block k (Nat.lt_of_lt_of_le hk hq.size) (by have := hq.size; omega)).trans (hq.block k hk hs)⟩
theorem two_boxes {w : World} {g2 g3 : Nat} (hne : g2 ≠ g3) {x y : Value} (h2 : w.cell? ⟨g2, 0, none⟩ = some x) (h3 : w.cell? ⟨g3, 0, none⟩ = some y) (v u : Value) :
    (((((w.setCell ⟨g2, 0, none⟩ v).setCell ⟨g3, 0, none⟩ u).setCell ⟨g2, 0, none⟩ v).setCell ⟨g3, 0, none⟩ u).cell? ⟨g2, 0, none⟩ = some v ∧ ((((w.setCell ⟨g2, 0, none⟩ v).setCell ⟨g3, 0, none⟩ u).setCell ⟨g2, 0, none⟩ v).setCell ⟨g3, 0, none⟩ u).cell? ⟨g3, 0, none⟩ = some u) ∧
    (((((w.setCell ⟨g2, 0, none⟩ v).setCell ⟨g3, 0, none⟩ u).setCell ⟨g3, 0, none⟩ u).setCell ⟨g2, 0, none⟩ v).cell? ⟨g2, 0, none⟩ = some v ∧ ((((w.setCell ⟨g2, 0, none⟩ v).setCell ⟨g3, 0, none⟩ u).setCell ⟨g3, 0, none⟩ u).setCell ⟨g2, 0, none⟩ v).cell? ⟨g3, 0, none⟩ = some u) := by
  have n1 : (⟨g2, 0, none⟩ : Addr) ≠ ⟨g3, 0, none⟩ := fun e => hne (by injection e)
  have a2 : (w.setCell ⟨g2, 0, none⟩ v).cell? ⟨g2, 0, none⟩ = some v := World.cell?_setCell_same _ _ _ h2
  have a3 : (w.setCell ⟨g2, 0, none⟩ v).cell? ⟨g3, 0, none⟩ = some y := (World.cell?_setCell_other _ _ _ _ n1).trans h3
  have b2 : ((w.setCell ⟨g2, 0, none⟩ v).setCell ⟨g3, 0, none⟩ u).cell? ⟨g2, 0, none⟩ = some v := (World.cell?_setCell_other _ _ _ _ n1.symm).trans a2
  have b3 : ((w.setCell ⟨g2, 0, none⟩ v).setCell ⟨g3, 0, none⟩ u).cell? ⟨g3, 0, none⟩ = some u := World.cell?_setCell_same _ _ _ a3
  have c2 := World.cell?_setCell_same _ _ v b2
  have c3 := (World.cell?_setCell_other _ _ _ v n1).trans b3
  have d2 := (World.cell?_setCell_other _ _ _ u n1.symm).trans b2
  have d3 := World.cell?_setCell_same _ _ u b3
  exact ⟨⟨(World.cell?_setCell_other _ _ _ u n1.symm).trans c2, World.cell?_setCell_same _ _ _ c3⟩, ⟨World.cell?_setCell_same _ _ _ d2, (World.cell?_setCell_other _ _ _ v n1).trans d3⟩⟩
set_option maxHeartbeats 16000000 in
theorem read_ok {w : World} {D : DMem} {d : Desk} (h : DeskAt w D d) {i : Nat} {e : Nat × Job} (hf : findJ (e.1 : Int) d.js = some i) (he : d.js[i]? = some e) (a n : Nat) (ha : a ≤ e.2.bytes.length) :
    Calls Try.prog 14 #[.pointer (some ⟨D.p, 0, none⟩), .int .i64 (e.1 : Int), .int .i64 (a : Int), .int .i64 (n : Int)] w fun x w' => ∃ A' c', x = .returned (.tuple #[.slice A' (min n (e.2.bytes.length - a)) c', .int .i64 (e.2.state : Nat), .int .i64 0]) ∧ Sl w' 5 A' (min n (e.2.bytes.length - a)) c' (bytes ((e.2.bytes.drop a).take n)) ∧ (∀ k, RowOf A' k → w.heap.size ≤ k) ∧ Quiet w w' := by
  have hkept := h.kept e (List.mem_of_getElem? he)
  obtain ⟨i0, hi0, hz0, hz1, hz2⟩ := info_parts Try.row5s
  have hp0 : w.cell? ⟨D.p, 0, none⟩ = some (.map (some D.nm)) := blk_cell h.desk 0
  have hp1 : w.cell? ⟨D.p, 1, none⟩ = some (.map (some D.jm)) := blk_cell h.desk 1
  have hps := lt_of_heap h.desk
  have g1 : D.p < w.heap.size + 1 := by omega
  have g2 : D.p < w.heap.size + 1 + 1 := by omega
  have g3 : D.p < w.heap.size + 1 + 1 + 1 := by omega
  have g4 : D.p < w.heap.size + 1 + 1 + 1 + 1 := by omega
  obtain ⟨m, hm, hj⟩ := h.there he
  have hl : ∀ o0 o1 o2 o3, (Instr.lookup 46 (.map (some D.jm)) (.int .i64 (e.1 : Int)) false).run Try.prog ((((w.alloc o0).alloc o1).alloc o2).alloc o3) = .ok (ptr m.blk) ((((w.alloc o0).alloc o1).alloc o2).alloc o3) := fun o0 o1 o2 o3 => look_job_some (h.quiet (((((Only.refl (fun _ => False) w).alloc o0).alloc o1).alloc o2).alloc o3)) hf hm
  unfold ptr at hl
  have hj1 : w.cell? ⟨m.blk, 1, none⟩ = some (.slice m.A e.2.bytes.length m.c) := blk_cell hj.blk 1
  have hj2 : w.cell? ⟨m.blk, 2, none⟩ = some (.int .i64 (e.2.state : Nat)) := blk_cell hj.blk 2
  have hj3 : w.cell? ⟨m.blk, 3, none⟩ = some (.int .i64 (e.2.part : Nat)) := blk_cell hj.blk 3
  have hjs := lt_of_heap hj.blk
  have k1 : m.blk < w.heap.size + 1 := by omega
  have k2 : m.blk < w.heap.size + 1 + 1 := by omega
  have k3 : m.blk < w.heap.size + 1 + 1 + 1 := by omega
  have k4 : m.blk < w.heap.size + 1 + 1 + 1 + 1 := by omega
  have hsm := hj.small
  have dk : (((e.2.state : Int) != 0) = false) ∨ (((e.2.state : Int) != 0) = true ∧ ((e.2.part : Int) == 0) = false) := by
    by_cases q : e.2.state = 0
    · exact .inl (by simp [q])
    · exact .inr ⟨by simp; omega, by simp; omega⟩
  clear hkept
  have hle := hj.sl.le
  have hcap := hj.sl.capLe
  unfold maxLen at hcap
  have H := Lib.hid h; clear h
  have HF := Lib.hid hf; clear hf
  have HE := Lib.hid he; clear he
  have HM := Lib.hid hm; clear hm
  have HJ := Lib.hid hj; clear hj
  obtain ⟨L, hL⟩ : ∃ L : Nat, e.2.bytes.length = a + L := ⟨e.2.bytes.length - a, by omega⟩
  obtain ⟨K, hK⟩ : ∃ K : Nat, K = min n L := ⟨_, rfl⟩
  have hK0 : min n (e.2.bytes.length - a) = K := by omega
  rw [hK0]
  clear hK0
  have hKl : a + K ≤ e.2.bytes.length := by omega
  have hKc : a + K ≤ m.c := by omega
  rcases (show (n ≤ L ∧ K = n) ∨ (L < n ∧ K = L) by omega) with ⟨hnl, hkn⟩ | ⟨hnl, hkn⟩
  · subst hkn
    have hnl2 : (L < K) = False := by simp; omega
    have HK := Lib.hid hK
    have HLL := Lib.hid hL
    clear hK hL
    have DK := Lib.hid dk
    rcases (show (m.c = a ∧ (a : Int) + (K : Int) ≤ (a : Int)) ∨ (¬ m.c = a ∧ (0 : Int) ≤ (a : Int)) by omega) with ⟨hca, i5⟩ | ⟨hca, i5⟩
    all_goals clear dk
    rotate_left
    all_goals
      go_enter Try.func14, Try.ntmps14
      go_wp2
      go_quiet (fail)
      go_wp2
      generalize hW : World.drewN ((((w.alloc (.cells #[.int .i64 (a : Int)] 3)).alloc (.cells #[.int .i64 (K : Int)] 3)).alloc (.cells #[.slice none 0 0] 22)).alloc (.cells #[.int .i64 0] 3)) nq = W
      have hR : RBox w W D m e a K := by
        subst hW
        refine ⟨by repeat (first | exact Only.refl _ _ | refine Only.drewN ?_ _ | refine Only.alloc ?_ _), by simp, ?_, ?_, ?_, ?_, ?_, ?_⟩
        all_goals simp [go_sem]
      have m1 : W.cell? ⟨m.blk, 1, none⟩ = some (.slice m.A e.2.bytes.length m.c) := blk_cell (hR.q.keep HJ.out.blk (fun x => x)) 1
      have m2 : W.cell? ⟨m.blk, 2, none⟩ = some (.int .i64 (e.2.state : Nat)) := blk_cell (hR.q.keep HJ.out.blk (fun x => x)) 2
      have m3 : W.cell? ⟨m.blk, 3, none⟩ = some (.int .i64 (e.2.part : Nat)) := blk_cell (hR.q.keep HJ.out.blk (fun x => x)) 3
      obtain ⟨hRq, hRs, b0, b1, b2, b3, f2, f3⟩ := hR
      have HQ := Lib.hid hRq; clear hRq
      have t0 : w.heap.size < W.heap.size := by omega
      have t1 : w.heap.size + 1 < W.heap.size := by omega
      have t2 : w.heap.size + 1 + 1 < W.heap.size := by omega
      have t3 : w.heap.size + 1 + 1 + 1 < W.heap.size := by omega
      have t4 : m.blk < W.heap.size := by omega
      clear hj1 hj2 hj3 hl hp0 hp1 hW
      have nb0 : ¬ (w.heap.size + 1 + 1 = w.heap.size) := by omega
      have nb1 : ¬ (w.heap.size + 1 + 1 = m.blk) := by omega
      have i1 : (0 : Int) ≤ (a : Int) := by omega
      have i2 : (a : Int) ≤ (a : Int) + (K : Int) := by omega
      have i3 : (a : Int) + (K : Int) ≤ (m.c : Int) := by omega
      have i4 : (0 : Int) ≤ (a : Int) + (K : Int) := by omega
      have hw1 : IntKind.i64.wrap ((e.2.bytes.length : Int) - (a : Int)) = (L : Int) := by
        have := HLL.out
        rw [IntKind.wrap_i64]; omega
      have hw2 : IntKind.i64.wrap ((a : Int) + (K : Int)) = (a : Int) + (K : Int) := by rw [IntKind.wrap_i64]; omega
      refine wp_region_held_drew (S := (fun w' => w'.cell? ⟨w.heap.size, 0, none⟩ = some (.int .i64 (a : Int)) ∧ w'.cell? ⟨w.heap.size + 1, 0, none⟩ = some (.int .i64 (K : Int)) ∧ w'.cell? ⟨m.blk, 1, none⟩ = some (.slice m.A e.2.bytes.length m.c))) (by kernel_rfl) ?_ (fun hHeld => ?_)
      · try dsimp only
        go_keep
      refine wpAnyH_take (i := 1) (v := ?_) rfl (by kernel_rfl) (by kernel_rfl) (by kernel_rfl) (fun _ _ _ h => h) (Or.inl ⟨by rfl, ?_⟩) (by assumption) ?_
      rotate_left
      · intro w hSw
        try dsimp only at hSw
        go_simp
        try with_reducible rfl
      simp only [Act.put, List.setIfInBounds_toArray, List.set_cons_zero, List.set_cons_succ]
      refine wpAnyH_take (i := 2) (v := ?_) rfl (by kernel_rfl) (by kernel_rfl) (by kernel_rfl) (fun _ _ _ h => h) (Or.inl ⟨by rfl, ?_⟩) (by assumption) ?_
      rotate_left
      · intro w hSw
        try dsimp only at hSw
        go_simp
        try with_reducible rfl
      simp only [Act.put, List.setIfInBounds_toArray, List.set_cons_zero, List.set_cons_succ]
      refine wpAnyH_take (i := 3) (v := ?_) rfl (by kernel_rfl) (by kernel_rfl) (by kernel_rfl) (fun _ _ _ h => h) (Or.inl ⟨by rfl, ?_⟩) (by assumption) ?_
      rotate_left
      · intro w hSw
        try dsimp only at hSw
        go_simp
        try with_reducible rfl
      simp only [Act.put, List.setIfInBounds_toArray, List.set_cons_zero, List.set_cons_succ]
      refine wpAnyH_take (i := 4) (v := ?_) rfl (by kernel_rfl) (by kernel_rfl) (by kernel_rfl) (fun _ _ _ h => h) (Or.inl ⟨by rfl, ?_⟩) (by assumption) ?_
      rotate_left
      · intro w hSw
        try dsimp only at hSw
        go_simp
        try with_reducible rfl
      simp only [Act.put, List.setIfInBounds_toArray, List.set_cons_zero, List.set_cons_succ]
      refine wpAnyH_take (i := 5) (v := ?_) rfl (by kernel_rfl) (by kernel_rfl) (by kernel_rfl) (fun _ _ _ h => h) (Or.inl ⟨by rfl, ?_⟩) (by assumption) ?_
      rotate_left
      · intro w hSw
        try dsimp only at hSw
        go_simp
        try with_reducible rfl
      simp only [Act.put, List.setIfInBounds_toArray, List.set_cons_zero, List.set_cons_succ]
      refine wpAnyH_take (i := 6) (v := ?_) rfl (by kernel_rfl) (by kernel_rfl) (by kernel_rfl) (fun _ _ _ h => h) (Or.inl ⟨by rfl, ?_⟩) (by assumption) ?_
      rotate_left
      · intro w hSw
        try dsimp only at hSw
        go_simp
        try with_reducible rfl
      simp only [Act.put, List.setIfInBounds_toArray, List.set_cons_zero, List.set_cons_succ]
      refine wpAnyH_take (i := 7) (v := ?_) rfl (by kernel_rfl) (by kernel_rfl) (by kernel_rfl) (fun _ _ _ h => h) (Or.inl ⟨by rfl, ?_⟩) (by assumption) ?_
      rotate_left
      · intro w hSw
        try dsimp only at hSw
        go_simp
        try with_reducible rfl
      simp only [Act.put, List.setIfInBounds_toArray, List.set_cons_zero, List.set_cons_succ]
      refine wpAnyH_take (i := 8) (v := ?_) rfl (by kernel_rfl) (by kernel_rfl) (by kernel_rfl) (fun _ _ _ h => h) (Or.inl ⟨by rfl, ?_⟩) (by assumption) ?_
      rotate_left
      · intro w hSw
        try dsimp only at hSw
        go_simp
        try with_reducible rfl
      simp only [Act.put, List.setIfInBounds_toArray, List.set_cons_zero, List.set_cons_succ]
      refine wpAnyH_take (i := 9) (v := ?_) rfl (by kernel_rfl) (by kernel_rfl) (by kernel_rfl) (fun _ _ _ h => h) (Or.inl ⟨by rfl, ?_⟩) (by assumption) ?_
      rotate_left
      · intro w hSw
        try dsimp only at hSw
        go_simp
        try with_reducible rfl
      simp only [Act.put, List.setIfInBounds_toArray, List.set_cons_zero, List.set_cons_succ]
      refine wpAnyH_take (i := 10) (v := ?_) rfl (by kernel_rfl) (by kernel_rfl) (by kernel_rfl) (fun _ _ _ h => h) (Or.inl ⟨by rfl, ?_⟩) (by assumption) ?_
      rotate_left
      · intro w hSw
        try dsimp only at hSw
        go_simp
        try with_reducible rfl
      simp only [Act.put, List.setIfInBounds_toArray, List.set_cons_zero, List.set_cons_succ]
      refine wpAnyH_take (i := 11) (v := ?_) rfl (by kernel_rfl) (by kernel_rfl) (by kernel_rfl) (fun _ _ _ h => h) (Or.inl ⟨by rfl, ?_⟩) (by assumption) ?_
      rotate_left
      · intro w hSw
        try dsimp only at hSw
        go_simp
        try with_reducible rfl
      simp only [Act.put, List.setIfInBounds_toArray, List.set_cons_zero, List.set_cons_succ]
      refine wpAnyH_take (i := 12) (v := ?_) rfl (by kernel_rfl) (by kernel_rfl) (by kernel_rfl) (fun _ _ _ h => h) (Or.inl ⟨by rfl, ?_⟩) (by assumption) ?_
      rotate_left
      · intro w hSw
        try dsimp only at hSw
        go_simp
        try with_reducible rfl
      simp only [Act.put, List.setIfInBounds_toArray, List.set_cons_zero, List.set_cons_succ]
      refine wpAnyH_take (i := 13) (v := ?_) rfl (by kernel_rfl) (by kernel_rfl) (by kernel_rfl) (fun _ _ _ h => h) (Or.inl ⟨by rfl, ?_⟩) (by assumption) ?_
      rotate_left
      · intro w hSw
        try dsimp only at hSw
        go_simp
        try with_reducible rfl
      simp only [Act.put, List.setIfInBounds_toArray, List.set_cons_zero, List.set_cons_succ]
      refine wpAnyH_take (i := 14) (v := ?_) rfl (by kernel_rfl) (by kernel_rfl) (by kernel_rfl) (fun _ _ _ h => h) (Or.inl ⟨by rfl, ?_⟩) (by assumption) ?_
      rotate_left
      · intro w hSw
        try dsimp only at hSw
        go_simp
        try with_reducible rfl
      simp only [Act.put, List.setIfInBounds_toArray, List.set_cons_zero, List.set_cons_succ]
      refine wpAnyH_take (i := 15) (v := ?_) rfl (by kernel_rfl) (by kernel_rfl) (by kernel_rfl) (fun _ _ _ h => h) (Or.inl ⟨by rfl, ?_⟩) (by assumption) ?_
      rotate_left
      · intro w hSw
        try dsimp only at hSw
        go_simp
        try with_reducible rfl
      simp only [Act.put, List.setIfInBounds_toArray, List.set_cons_zero, List.set_cons_succ]
      refine wpAnyH_take (i := 16) (v := ?_) rfl (by kernel_rfl) (by kernel_rfl) (by kernel_rfl) (fun _ _ _ h => h) (Or.inl ⟨by rfl, ?_⟩) (by assumption) ?_
      rotate_left
      · intro w hSw
        try dsimp only at hSw
        go_simp
        try with_reducible rfl
      simp only [Act.put, List.setIfInBounds_toArray, List.set_cons_zero, List.set_cons_succ]
      refine wpAnyH_take (i := 17) (v := ?_) rfl (by kernel_rfl) (by kernel_rfl) (by kernel_rfl) (fun _ _ _ h => h) (Or.inl ⟨by rfl, ?_⟩) (by assumption) ?_
      rotate_left
      · intro w hSw
        try dsimp only at hSw
        go_simp
        try with_reducible rfl
      simp only [Act.put, List.setIfInBounds_toArray, List.set_cons_zero, List.set_cons_succ]
      refine wpAnyH_ready (rs := [0]) (by kernel_rfl) (by simp) ?_
      refine AllReadyH.cons rfl (fun KK hKK => ?_) AllReadyH.nil
      go_simp
      refine hKK.out _ _ ?_ (fun hHeld2 => ?_)
      · try dsimp only
        go_keep
      clear hKK KK hHeld
      rename _ => hHeld
      try simp only [Act.put, List.setIfInBounds_toArray, List.set_cons_zero, List.set_cons_succ]
      refine wpAnyH_ready (rs := [18]) (by kernel_rfl) (by simp) ?_
      refine AllReadyH.cons rfl (fun KK hKK => ?_) AllReadyH.nil
      refine step_append_sl _ rfl (.tmp 22) (.tmp 39) 22 rfl 5 i0 (.int .u8 0) 1 Try.underlying22 hi0 hz0 hz1 hz2 rfl (some ⟨w.heap.size + 1 + 1 + 1 + 1, 0, none⟩) 0 0 [] rfl (Sl.empty (cur := #[]) (by repeat (first | exact blk_new' _ _ (by simp [hRs]) | refine blk_drew ?_))) _ _ _ (bytes ((e.2.bytes.drop a).take K)) rfl (by rw [part_len hKl]; omega) (by have hps := part_sl HJ.out hKl; (first | rw [if_neg hca] at hps | rw [if_pos hca] at hps); exact (hps.only (F := fun _ => False) (by repeat (first | exact HQ.out | refine Only.drewN ?_ _ | refine Only.drew ?_ | refine Only.alloc ?_ _)) (fun _ _ h => h)).src) (fun hA => by first | rfl | (have hps := part_sl HJ.out hKl; (first | rw [if_neg hca] at hps | rw [if_pos hca] at hps); have := none_len hps (Nat.le_refl _) hA; omega)) (bytes_one _) (by unfold maxLen; first | done | omega) (by first | done | omega) ?_
      intro A' c' w' hsl' hon' hrow'
      (first | (have hlen : 0 + (((a : Int) + (K : Int)).toNat - a) = K := (by omega); rw [hlen] at hsl' ⊢; clear hlen) | (have hlen : 0 + 0 = K := (by omega); rw [hlen] at hsl' ⊢; clear hlen))
      have hfar := far_keep (W := W) (by repeat (first | exact Only.refl _ _ | refine Only.drewN ?_ _ | refine Only.drew ?_ | refine Only.alloc ?_ _)) hon' (by omega)
      have r0 := (hfar.cell (p := ⟨w.heap.size, 0, none⟩) t0 (by simp; omega)).trans b0
      have r1 := (hfar.cell (p := ⟨w.heap.size + 1, 0, none⟩) t1 (by simp; omega)).trans b1
      have r2 := (hfar.cell (p := ⟨w.heap.size + 1 + 1, 0, none⟩) t2 (by simp; omega)).trans b2
      have r3 := (hfar.cell (p := ⟨w.heap.size + 1 + 1 + 1, 0, none⟩) t3 (by simp; omega)).trans b3
      have s2 := (hfar.frozen (p := ⟨w.heap.size + 1 + 1, 0, none⟩) t2 (by simp; omega)).trans f2
      have s3 := (hfar.frozen (p := ⟨w.heap.size + 1 + 1 + 1, 0, none⟩) t3 (by simp; omega)).trans f3
      have n1 := (hfar.cell (p := ⟨m.blk, 1, none⟩) t4 (by simp; omega)).trans m1
      have n2 := (hfar.cell (p := ⟨m.blk, 2, none⟩) t4 (by simp; omega)).trans m2
      have n3 := (hfar.cell (p := ⟨m.blk, 3, none⟩) t4 (by simp; omega)).trans m3
      have z9 := hfar.size
      refine hKK.out _ _ ?_ (fun hHeld2 => ?_)
      · try dsimp only
        exact ⟨r0, r1, n1⟩
      clear hKK KK hHeld
      rename _ => hHeld
      try simp only [Act.put, List.setIfInBounds_toArray, List.set_cons_zero, List.set_cons_succ]
      refine wpAnyH_ready (rs := [19]) (by kernel_rfl) (by simp) ?_
      refine AllReadyH.cons rfl (fun KK hKK => ?_) AllReadyH.nil
      go_simp
      refine hKK.out _ _ ?_ (fun hHeld2 => ?_)
      · try dsimp only
        go_keep
      clear hKK KK hHeld
      rename _ => hHeld
      try simp only [Act.put, List.setIfInBounds_toArray, List.set_cons_zero, List.set_cons_succ]
      refine wpAnyH_done (by kernel_rfl) ?_ _
      have hrow2 : ∀ k, RowOf A' k → W.heap.size ≤ k := fun k hk => by
        rcases hrow' k hk with ⟨x, hx, hxk⟩ | hk
        · obtain rfl := Option.some.inj hx
          simp at hxk
          omega
        · have : W.heap.size ≤ ((W.alloc (.cells #[] 5)).drew).heap.size := by simp
          omega
      have HSL := Lib.hid hsl'; clear hsl'
      have HROW := Lib.hid hrow2; clear hrow2 hrow'
      have HFAR := Lib.hid hfar; clear hfar hon'
      have nb2 : ¬ (w.heap.size + 1 + 1 + 1 = m.blk) := by omega
      have dk := DK.out
      rcases dk with ds | ⟨ds, dp⟩
      all_goals
        go_wp2
        go_region
        all_goals
          go_wp2
          obtain ⟨⟨c2, c3⟩, d2, d3⟩ := two_boxes (g2 := w.heap.size + 1 + 1) (g3 := w.heap.size + 1 + 1 + 1) (by omega) r2 r3 (.slice A' K c') (.int .i64 (e.2.state : Nat))
          exact bodyPost_ret (v := .tuple #[.slice A' K c', .int .i64 (e.2.state : Nat), .int .i64 0]) (by simp only [results, Try.results14]; simp [go_sem, c2, c3, d2, d3]) rfl ⟨A', c', rfl, HSL.out.only (F := fun k => k = w.heap.size + 1 + 1 ∨ k = w.heap.size + 1 + 1 + 1) (by repeat (first | exact Only.refl _ _ | refine Only.drew ?_ | refine Only.setCell ?_ (fun _ => by simp) _)) (fun k hk q => by have := HROW.out k hk; omega), fun k hk => by have := HROW.out k hk; omega, (by repeat (first | exact HFAR.out.quiet_of HQ.out | refine Only.drew ?_ | refine Only.setCell ?_ (fun h => by first | (simp at h; done) | (simp at h; omega)) _))⟩
  · subst hkn
    have HK := Lib.hid hK
    have HLL := Lib.hid hL
    have htk : (e.2.bytes.drop a).take n = (e.2.bytes.drop a).take K := by
      rw [List.take_of_length_le (by rw [List.length_drop]; omega), List.take_of_length_le (by rw [List.length_drop]; omega)]
    rw [htk]
    clear hK hL htk
    have DK := Lib.hid dk
    rcases (show (m.c = a ∧ (a : Int) + (K : Int) ≤ (a : Int)) ∨ (¬ m.c = a ∧ (0 : Int) ≤ (a : Int)) by omega) with ⟨hca, i5⟩ | ⟨hca, i5⟩
    all_goals clear dk
    rotate_left
    all_goals
      go_enter Try.func14, Try.ntmps14
      go_wp2
      go_quiet (fail)
      go_wp2
      generalize hW : World.drewN ((((w.alloc (.cells #[.int .i64 (a : Int)] 3)).alloc (.cells #[.int .i64 (n : Int)] 3)).alloc (.cells #[.slice none 0 0] 22)).alloc (.cells #[.int .i64 0] 3)) nq = W
      have hR : RBox w W D m e a n := by
        subst hW
        refine ⟨by repeat (first | exact Only.refl _ _ | refine Only.drewN ?_ _ | refine Only.alloc ?_ _), by simp, ?_, ?_, ?_, ?_, ?_, ?_⟩
        all_goals simp [go_sem]
      have m1 : W.cell? ⟨m.blk, 1, none⟩ = some (.slice m.A e.2.bytes.length m.c) := blk_cell (hR.q.keep HJ.out.blk (fun x => x)) 1
      have m2 : W.cell? ⟨m.blk, 2, none⟩ = some (.int .i64 (e.2.state : Nat)) := blk_cell (hR.q.keep HJ.out.blk (fun x => x)) 2
      have m3 : W.cell? ⟨m.blk, 3, none⟩ = some (.int .i64 (e.2.part : Nat)) := blk_cell (hR.q.keep HJ.out.blk (fun x => x)) 3
      obtain ⟨hRq, hRs, b0, b1, b2, b3, f2, f3⟩ := hR
      have HQ := Lib.hid hRq; clear hRq
      have t0 : w.heap.size < W.heap.size := by omega
      have t1 : w.heap.size + 1 < W.heap.size := by omega
      have t2 : w.heap.size + 1 + 1 < W.heap.size := by omega
      have t3 : w.heap.size + 1 + 1 + 1 < W.heap.size := by omega
      have t4 : m.blk < W.heap.size := by omega
      clear hj1 hj2 hj3 hl hp0 hp1 hW
      have nb0 : ¬ (w.heap.size + 1 + 1 = w.heap.size) := by omega
      have nb1 : ¬ (w.heap.size + 1 + 1 = m.blk) := by omega
      have i1 : (0 : Int) ≤ (a : Int) := by omega
      have i2 : (a : Int) ≤ (a : Int) + (K : Int) := by omega
      have i3 : (a : Int) + (K : Int) ≤ (m.c : Int) := by omega
      have i4 : (0 : Int) ≤ (a : Int) + (K : Int) := by omega
      have hw1 : IntKind.i64.wrap ((e.2.bytes.length : Int) - (a : Int)) = (K : Int) := by
        have := HLL.out
        rw [IntKind.wrap_i64]; omega
      have hw2 : IntKind.i64.wrap ((a : Int) + (K : Int)) = (a : Int) + (K : Int) := by rw [IntKind.wrap_i64]; omega
      refine wp_region_held_drew (S := (fun w' => w'.cell? ⟨w.heap.size, 0, none⟩ = some (.int .i64 (a : Int)) ∧ w'.cell? ⟨w.heap.size + 1, 0, none⟩ = some (.int .i64 (n : Int)) ∧ w'.cell? ⟨m.blk, 1, none⟩ = some (.slice m.A e.2.bytes.length m.c))) (by kernel_rfl) ?_ (fun hHeld => ?_)
      · try dsimp only
        go_keep
      refine wpAnyH_take (i := 1) (v := ?_) rfl (by kernel_rfl) (by kernel_rfl) (by kernel_rfl) (fun _ _ _ h => h) (Or.inl ⟨by rfl, ?_⟩) (by assumption) ?_
      rotate_left
      · intro w hSw
        try dsimp only at hSw
        go_simp
        try with_reducible rfl
      simp only [Act.put, List.setIfInBounds_toArray, List.set_cons_zero, List.set_cons_succ]
      refine wpAnyH_take (i := 2) (v := ?_) rfl (by kernel_rfl) (by kernel_rfl) (by kernel_rfl) (fun _ _ _ h => h) (Or.inl ⟨by rfl, ?_⟩) (by assumption) ?_
      rotate_left
      · intro w hSw
        try dsimp only at hSw
        go_simp
        try with_reducible rfl
      simp only [Act.put, List.setIfInBounds_toArray, List.set_cons_zero, List.set_cons_succ]
      refine wpAnyH_take (i := 3) (v := ?_) rfl (by kernel_rfl) (by kernel_rfl) (by kernel_rfl) (fun _ _ _ h => h) (Or.inl ⟨by rfl, ?_⟩) (by assumption) ?_
      rotate_left
      · intro w hSw
        try dsimp only at hSw
        go_simp
        try with_reducible rfl
      simp only [Act.put, List.setIfInBounds_toArray, List.set_cons_zero, List.set_cons_succ]
      refine wpAnyH_take (i := 4) (v := ?_) rfl (by kernel_rfl) (by kernel_rfl) (by kernel_rfl) (fun _ _ _ h => h) (Or.inl ⟨by rfl, ?_⟩) (by assumption) ?_
      rotate_left
      · intro w hSw
        try dsimp only at hSw
        go_simp
        try with_reducible rfl
      simp only [Act.put, List.setIfInBounds_toArray, List.set_cons_zero, List.set_cons_succ]
      refine wpAnyH_take (i := 5) (v := ?_) rfl (by kernel_rfl) (by kernel_rfl) (by kernel_rfl) (fun _ _ _ h => h) (Or.inl ⟨by rfl, ?_⟩) (by assumption) ?_
      rotate_left
      · intro w hSw
        try dsimp only at hSw
        go_simp
        try with_reducible rfl
      simp only [Act.put, List.setIfInBounds_toArray, List.set_cons_zero, List.set_cons_succ]
      refine wpAnyH_take (i := 6) (v := ?_) rfl (by kernel_rfl) (by kernel_rfl) (by kernel_rfl) (fun _ _ _ h => h) (Or.inl ⟨by rfl, ?_⟩) (by assumption) ?_
      rotate_left
      · intro w hSw
        try dsimp only at hSw
        go_simp
        try with_reducible rfl
      simp only [Act.put, List.setIfInBounds_toArray, List.set_cons_zero, List.set_cons_succ]
      refine wpAnyH_take (i := 7) (v := ?_) rfl (by kernel_rfl) (by kernel_rfl) (by kernel_rfl) (fun _ _ _ h => h) (Or.inl ⟨by rfl, ?_⟩) (by assumption) ?_
      rotate_left
      · intro w hSw
        try dsimp only at hSw
        go_simp
        try with_reducible rfl
      simp only [Act.put, List.setIfInBounds_toArray, List.set_cons_zero, List.set_cons_succ]
      refine wpAnyH_take (i := 8) (v := ?_) rfl (by kernel_rfl) (by kernel_rfl) (by kernel_rfl) (fun _ _ _ h => h) (Or.inl ⟨by rfl, ?_⟩) (by assumption) ?_
      rotate_left
      · intro w hSw
        try dsimp only at hSw
        go_simp
        try with_reducible rfl
      simp only [Act.put, List.setIfInBounds_toArray, List.set_cons_zero, List.set_cons_succ]
      refine wpAnyH_take (i := 9) (v := ?_) rfl (by kernel_rfl) (by kernel_rfl) (by kernel_rfl) (fun _ _ _ h => h) (Or.inl ⟨by rfl, ?_⟩) (by assumption) ?_
      rotate_left
      · intro w hSw
        try dsimp only at hSw
        go_simp
        try with_reducible rfl
      simp only [Act.put, List.setIfInBounds_toArray, List.set_cons_zero, List.set_cons_succ]
      refine wpAnyH_take (i := 10) (v := ?_) rfl (by kernel_rfl) (by kernel_rfl) (by kernel_rfl) (fun _ _ _ h => h) (Or.inl ⟨by rfl, ?_⟩) (by assumption) ?_
      rotate_left
      · intro w hSw
        try dsimp only at hSw
        go_simp
        try with_reducible rfl
      simp only [Act.put, List.setIfInBounds_toArray, List.set_cons_zero, List.set_cons_succ]
      refine wpAnyH_take (i := 11) (v := ?_) rfl (by kernel_rfl) (by kernel_rfl) (by kernel_rfl) (fun _ _ _ h => h) (Or.inl ⟨by rfl, ?_⟩) (by assumption) ?_
      rotate_left
      · intro w hSw
        try dsimp only at hSw
        go_simp
        try with_reducible rfl
      simp only [Act.put, List.setIfInBounds_toArray, List.set_cons_zero, List.set_cons_succ]
      refine wpAnyH_take (i := 12) (v := ?_) rfl (by kernel_rfl) (by kernel_rfl) (by kernel_rfl) (fun _ _ _ h => h) (Or.inl ⟨by rfl, ?_⟩) (by assumption) ?_
      rotate_left
      · intro w hSw
        try dsimp only at hSw
        go_simp
        try with_reducible rfl
      simp only [Act.put, List.setIfInBounds_toArray, List.set_cons_zero, List.set_cons_succ]
      refine wpAnyH_take (i := 13) (v := ?_) rfl (by kernel_rfl) (by kernel_rfl) (by kernel_rfl) (fun _ _ _ h => h) (Or.inl ⟨by rfl, ?_⟩) (by assumption) ?_
      rotate_left
      · intro w hSw
        try dsimp only at hSw
        go_simp
        try with_reducible rfl
      simp only [Act.put, List.setIfInBounds_toArray, List.set_cons_zero, List.set_cons_succ]
      refine wpAnyH_take (i := 14) (v := ?_) rfl (by kernel_rfl) (by kernel_rfl) (by kernel_rfl) (fun _ _ _ h => h) (Or.inl ⟨by rfl, ?_⟩) (by assumption) ?_
      rotate_left
      · intro w hSw
        try dsimp only at hSw
        go_simp
        try with_reducible rfl
      simp only [Act.put, List.setIfInBounds_toArray, List.set_cons_zero, List.set_cons_succ]
      refine wpAnyH_take (i := 15) (v := ?_) rfl (by kernel_rfl) (by kernel_rfl) (by kernel_rfl) (fun _ _ _ h => h) (Or.inl ⟨by rfl, ?_⟩) (by assumption) ?_
      rotate_left
      · intro w hSw
        try dsimp only at hSw
        go_simp
        try with_reducible rfl
      simp only [Act.put, List.setIfInBounds_toArray, List.set_cons_zero, List.set_cons_succ]
      refine wpAnyH_take (i := 16) (v := ?_) rfl (by kernel_rfl) (by kernel_rfl) (by kernel_rfl) (fun _ _ _ h => h) (Or.inl ⟨by rfl, ?_⟩) (by assumption) ?_
      rotate_left
      · intro w hSw
        try dsimp only at hSw
        go_simp
        try with_reducible rfl
      simp only [Act.put, List.setIfInBounds_toArray, List.set_cons_zero, List.set_cons_succ]
      refine wpAnyH_take (i := 17) (v := ?_) rfl (by kernel_rfl) (by kernel_rfl) (by kernel_rfl) (fun _ _ _ h => h) (Or.inl ⟨by rfl, ?_⟩) (by assumption) ?_
      rotate_left
      · intro w hSw
        try dsimp only at hSw
        go_simp
        try with_reducible rfl
      simp only [Act.put, List.setIfInBounds_toArray, List.set_cons_zero, List.set_cons_succ]
      refine wpAnyH_ready (rs := [0]) (by kernel_rfl) (by simp) ?_
      refine AllReadyH.cons rfl (fun KK hKK => ?_) AllReadyH.nil
      go_simp
      refine hKK.out _ _ ?_ (fun hHeld2 => ?_)
      · try dsimp only
        go_keep
      clear hKK KK hHeld
      rename _ => hHeld
      try simp only [Act.put, List.setIfInBounds_toArray, List.set_cons_zero, List.set_cons_succ]
      refine wpAnyH_ready (rs := [18]) (by kernel_rfl) (by simp) ?_
      refine AllReadyH.cons rfl (fun KK hKK => ?_) AllReadyH.nil
      refine step_append_sl _ rfl (.tmp 22) (.tmp 39) 22 rfl 5 i0 (.int .u8 0) 1 Try.underlying22 hi0 hz0 hz1 hz2 rfl (some ⟨w.heap.size + 1 + 1 + 1 + 1, 0, none⟩) 0 0 [] rfl (Sl.empty (cur := #[]) (by repeat (first | exact blk_new' _ _ (by simp [hRs]) | refine blk_drew ?_))) _ _ _ (bytes ((e.2.bytes.drop a).take K)) rfl (by rw [part_len hKl]; omega) (by have hps := part_sl HJ.out hKl; (first | rw [if_neg hca] at hps | rw [if_pos hca] at hps); exact (hps.only (F := fun _ => False) (by repeat (first | exact HQ.out | refine Only.drewN ?_ _ | refine Only.drew ?_ | refine Only.alloc ?_ _)) (fun _ _ h => h)).src) (fun hA => by first | rfl | (have hps := part_sl HJ.out hKl; (first | rw [if_neg hca] at hps | rw [if_pos hca] at hps); have := none_len hps (Nat.le_refl _) hA; omega)) (bytes_one _) (by unfold maxLen; first | done | omega) (by first | done | omega) ?_
      intro A' c' w' hsl' hon' hrow'
      (first | (have hlen : 0 + (((a : Int) + (K : Int)).toNat - a) = K := (by omega); rw [hlen] at hsl' ⊢; clear hlen) | (have hlen : 0 + 0 = K := (by omega); rw [hlen] at hsl' ⊢; clear hlen))
      have hfar := far_keep (W := W) (by repeat (first | exact Only.refl _ _ | refine Only.drewN ?_ _ | refine Only.drew ?_ | refine Only.alloc ?_ _)) hon' (by omega)
      have r0 := (hfar.cell (p := ⟨w.heap.size, 0, none⟩) t0 (by simp; omega)).trans b0
      have r1 := (hfar.cell (p := ⟨w.heap.size + 1, 0, none⟩) t1 (by simp; omega)).trans b1
      have r2 := (hfar.cell (p := ⟨w.heap.size + 1 + 1, 0, none⟩) t2 (by simp; omega)).trans b2
      have r3 := (hfar.cell (p := ⟨w.heap.size + 1 + 1 + 1, 0, none⟩) t3 (by simp; omega)).trans b3
      have s2 := (hfar.frozen (p := ⟨w.heap.size + 1 + 1, 0, none⟩) t2 (by simp; omega)).trans f2
      have s3 := (hfar.frozen (p := ⟨w.heap.size + 1 + 1 + 1, 0, none⟩) t3 (by simp; omega)).trans f3
      have n1 := (hfar.cell (p := ⟨m.blk, 1, none⟩) t4 (by simp; omega)).trans m1
      have n2 := (hfar.cell (p := ⟨m.blk, 2, none⟩) t4 (by simp; omega)).trans m2
      have n3 := (hfar.cell (p := ⟨m.blk, 3, none⟩) t4 (by simp; omega)).trans m3
      have z9 := hfar.size
      refine hKK.out _ _ ?_ (fun hHeld2 => ?_)
      · try dsimp only
        exact ⟨r0, r1, n1⟩
      clear hKK KK hHeld
      rename _ => hHeld
      try simp only [Act.put, List.setIfInBounds_toArray, List.set_cons_zero, List.set_cons_succ]
      refine wpAnyH_ready (rs := [19]) (by kernel_rfl) (by simp) ?_
      refine AllReadyH.cons rfl (fun KK hKK => ?_) AllReadyH.nil
      go_simp
      refine hKK.out _ _ ?_ (fun hHeld2 => ?_)
      · try dsimp only
        go_keep
      clear hKK KK hHeld
      rename _ => hHeld
      try simp only [Act.put, List.setIfInBounds_toArray, List.set_cons_zero, List.set_cons_succ]
      refine wpAnyH_done (by kernel_rfl) ?_ _
      have hrow2 : ∀ k, RowOf A' k → W.heap.size ≤ k := fun k hk => by
        rcases hrow' k hk with ⟨x, hx, hxk⟩ | hk
        · obtain rfl := Option.some.inj hx
          simp at hxk
          omega
        · have : W.heap.size ≤ ((W.alloc (.cells #[] 5)).drew).heap.size := by simp
          omega
      have HSL := Lib.hid hsl'; clear hsl'
      have HROW := Lib.hid hrow2; clear hrow2 hrow'
      have HFAR := Lib.hid hfar; clear hfar hon'
      have nb2 : ¬ (w.heap.size + 1 + 1 + 1 = m.blk) := by omega
      have dk := DK.out
      rcases dk with ds | ⟨ds, dp⟩
      all_goals
        go_wp2
        go_region
        all_goals
          go_wp2
          obtain ⟨⟨c2, c3⟩, d2, d3⟩ := two_boxes (g2 := w.heap.size + 1 + 1) (g3 := w.heap.size + 1 + 1 + 1) (by omega) r2 r3 (.slice A' K c') (.int .i64 (e.2.state : Nat))
          exact bodyPost_ret (v := .tuple #[.slice A' K c', .int .i64 (e.2.state : Nat), .int .i64 0]) (by simp only [results, Try.results14]; simp [go_sem, c2, c3, d2, d3]) rfl ⟨A', c', rfl, HSL.out.only (F := fun k => k = w.heap.size + 1 + 1 ∨ k = w.heap.size + 1 + 1 + 1) (by repeat (first | exact Only.refl _ _ | refine Only.drew ?_ | refine Only.setCell ?_ (fun _ => by simp) _)) (fun k hk q => by have := HROW.out k hk; omega), fun k hk => by have := HROW.out k hk; omega, (by repeat (first | exact HFAR.out.quiet_of HQ.out | refine Only.drew ?_ | refine Only.setCell ?_ (fun h => by first | (simp at h; done) | (simp at h; omega)) _))⟩
theorem read_at {w : World} {D : DMem} {d : Desk} (h : DeskAt w D d) (id a n : Int) :
    Calls Try.prog 14 #[.pointer (some ⟨D.p, 0, none⟩), .int .i64 id, .int .i64 a, .int .i64 n] w fun x w' => ∃ A' c', x = .returned (.tuple #[.slice A' (readF d id a n).1.length c', .int .i64 (readF d id a n).2.1, .int .i64 (readF d id a n).2.2]) ∧
      Sl w' 5 A' (readF d id a n).1.length c' (bytes (readF d id a n).1) ∧ (∀ k, RowOf A' k → w.heap.size ≤ k) ∧ Quiet w w' := by
  have hbad : ∀ {x : Ending} {w' : World} {s c : Int}, x = .returned (.tuple #[.slice none 0 0, .int .i64 s, .int .i64 c]) ∧ Quiet w w' → ∃ A' c', x = .returned (.tuple #[.slice A' ([] : List UInt8).length c', .int .i64 s, .int .i64 c]) ∧ Sl w' 5 A' ([] : List UInt8).length c' (bytes []) ∧ (∀ k, RowOf A' k → w.heap.size ≤ k) ∧ Quiet w w' :=
    fun ⟨h1, h2⟩ => ⟨none, 0, h1, Sl.nil _ _, fun k ⟨a, e, _⟩ => (nomatch e), h2⟩
  unfold readF
  cases hf : findJ id d.js with
  | none => exact (read_none h id a n hf).mono fun x w' hx => hbad hx
  | some i =>
    obtain ⟨e, he, rfl⟩ := findJ_some hf
    simp only [he]
    by_cases hc : a < 0 ∨ n < 0 ∨ (e.2.bytes.length : Int) < a
    · rw [if_pos hc]
      by_cases h1 : a < 0
      · exact (read_neg h hf he a n h1).mono fun x w' hx => hbad hx
      · by_cases h2 : n < 0
        · exact (read_negn h hf he a n (by omega) h2).mono fun x w' hx => hbad hx
        · exact (read_far h hf he a n (by omega) (by omega) (by omega)).mono fun x w' hx => hbad hx
    · rw [if_neg hc]
      obtain ⟨a', rfl⟩ : ∃ a' : Nat, a = (a' : Int) := ⟨a.toNat, by omega⟩
      obtain ⟨n', rfl⟩ : ∃ n' : Nat, n = (n' : Int) := ⟨n.toNat, by omega⟩
      simp only [Int.toNat_natCast]
      have hl : ((e.2.bytes.drop a').take n').length = min n' (e.2.bytes.length - a') := by rw [List.length_take, List.length_drop]
      rw [hl]
      exact read_ok h hf he a' n' (by omega)
end Go.Proofs.Ytffockkdiimneaa
