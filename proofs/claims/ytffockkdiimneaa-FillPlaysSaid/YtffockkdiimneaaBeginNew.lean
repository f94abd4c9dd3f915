/-
  What the program's Begin does where it lays a fill anew. No conditions.
-/
import Derived.Test.YtffockkdiimneaaBegin
namespace Go.Proofs.Ytffockkdiimneaa
open Go.RowKit Go.MapKept

theorem no_job {d : Desk} {D : DMem} (hb : ∀ e ∈ d.js, 1 ≤ e.1 ∧ e.1 ≤ d.last) : ∀ x ∈ jobList d.js D.ms, x.1 ≠ .int .i64 ((d.last : Int) + 1) := by
  intro x hx q
  obtain ⟨i, hi⟩ := List.mem_iff_getElem?.1 hx
  unfold jobList at hi
  rw [List.getElem?_zipWith] at hi
  split at hi
  · rename_i e m he hm
    obtain rfl := Option.some.inj hi
    have := (hb e (List.mem_of_getElem? he)).2
    injection q with _ q
    omega
  · cases hi
theorem sm_alloc {w : World} {m : Nat} {l : List (Value × Value)} (h : SMap w m l) (o : Obj) : SMap (w.alloc o) m l := h.only ((Only.refl (fun _ => False) w).alloc o) (fun h => h)
theorem pm_alloc {w : World} {m clk : Nat} {l : List (Value × Value)} {k : Value} (h : PMap w m l k clk) (o : Obj) : PMap (w.alloc o) m l k clk := h.only ((Only.refl (fun _ => False) w).alloc o) (fun h => h)
theorem sm_drew {w : World} {m : Nat} {l : List (Value × Value)} (h : SMap w m l) : SMap w.drew m l := h
/-- What lies behind region 11. -/
structure NewFin (W : World) (D : DMem) (d : Desk) (name : ByteArray) (g : Nat) (w4 : World) : Prop where
  lo : W.heap.size ≤ g
  only : Only (fun k => k = D.nm ∨ k = D.jm) W w4
  names : SMap w4 D.nm (nameList d.js ++ [(.string name, .int .i64 ((d.last : Int) + 1))])
  jobs : SMap w4 D.jm (jobList d.js D.ms ++ [(.int .i64 ((d.last : Int) + 1), .pointer (some ⟨g, 0, none⟩))])
  job : w4.heap[g]? = some (.cells #[.string name, .slice none 0 0, .int .i64 0, .int .i64 0] 69 (0, 0))
theorem chainA {W : World} {D : DMem} {d : Desk} {name : ByteArray} (hN : SMap W D.nm (nameList d.js)) (hJ : SMap W D.jm (jobList d.js D.ms)) (hne : D.nm ≠ D.jm) (hf : findN name d.js = none) (hb : ∀ e ∈ d.js, 1 ≤ e.1 ∧ e.1 ≤ d.last) :
    ∃ clk w1 w2 clk2 w3 w4, (Instr.mapEntry 45 (.map (some D.nm)) (.string name)).run Try.prog (W.alloc (.cells #[.string name, .slice none 0 0, .int .i64 0, .int .i64 0] 69)).drew = .ok (.tuple #[.int .i64 0, .int .i64 (clk : Nat)]) w1 ∧ (Instr.entryStore 45 (.map (some D.nm)) (.int .i64 (clk : Nat)) (.int .i64 ((d.last : Int) + 1))).run Try.prog w1 = .ok () w2 ∧ (Instr.mapEntry 46 (.map (some D.jm)) (.int .i64 ((d.last : Int) + 1))).run Try.prog w2 = .ok (.tuple #[.pointer none, .int .i64 (clk2 : Nat)]) w3 ∧ (Instr.entryStore 46 (.map (some D.jm)) (.int .i64 (clk2 : Nat)) (.pointer (some ⟨W.heap.size, 0, none⟩))).run Try.prog w3 = .ok () w4 ∧ NewFin W D d name W.heap.size w4 := by
  obtain ⟨clk, w1, run1, hp1, ho1⟩ := run_mapEntry_s (P := Try.prog) (w := (W.alloc (.cells #[.string name, .slice none 0 0, .int .i64 0, .int .i64 0] 69)).drew) (t := 45) (k := .string name) Try.underlying45 Try.underlying9 trivial zero3 (sm_alloc hN _) (names_key _) (findN_none hf)
  have hj1 : SMap w1 D.jm _ := SMap.only (w := (W.alloc (.cells #[.string name, .slice none 0 0, .int .i64 0, .int .i64 0] 69)).drew) (sm_alloc hJ _) ho1 (fun q => hne q.symm)
  obtain ⟨w2, run2, hp2, ho2⟩ := run_entryStore_s (P := Try.prog) (w := w1) (t := 45) hp1 (.int .i64 ((d.last : Int) + 1))
  have hj2 : SMap w2 D.jm _ := SMap.only (w := w1) hj1 ho2 (fun q => hne q.symm)
  obtain ⟨clk2, w3, run3, hp3, ho3⟩ := run_mapEntry_s (P := Try.prog) (w := w2) (t := 46) (k := .int .i64 ((d.last : Int) + 1)) Try.underlying46 Try.underlying3 rfl zero67 hj2 (jobs_key _ _) (no_job hb)
  have hn3 : SMap w3 D.nm _ := SMap.only (w := w2) hp2 ho3 (fun q => hne q)
  obtain ⟨w4, run4, hp4, ho4⟩ := run_entryStore_s (P := Try.prog) (w := w3) (t := 46) hp3 (.pointer (some ⟨W.heap.size, 0, none⟩))
  have hn4 : SMap w4 D.nm _ := SMap.only (w := w3) hn3 ho4 (fun q => hne q)
  have f1 : Only (fun k => k = D.nm ∨ k = D.jm) (W.alloc (.cells #[.string name, .slice none 0 0, .int .i64 0, .int .i64 0] 69)).drew w1 := ho1.mono (fun _ _ q => .inl q)
  have f2 : Only (fun k => k = D.nm ∨ k = D.jm) w1 w2 := ho2.mono (fun _ _ q => .inl q)
  have f3 : Only (fun k => k = D.nm ∨ k = D.jm) w2 w3 := ho3.mono (fun _ _ q => .inr q)
  have f4 : Only (fun k => k = D.nm ∨ k = D.jm) w3 w4 := ho4.mono (fun _ _ q => .inr q)
  have h1 : Only (fun k => k = D.nm ∨ k = D.jm) W w1 := (Only.drew ((Only.refl (fun k => k = D.nm ∨ k = D.jm) W).alloc _)).trans f1
  have h2 : Only (fun k => k = D.nm ∨ k = D.jm) w1 w2 := (Only.refl (fun k => k = D.nm ∨ k = D.jm) w1).trans f2
  have h3 : Only (fun k => k = D.nm ∨ k = D.jm) w2 w3 := (Only.refl (fun k => k = D.nm ∨ k = D.jm) w2).trans f3
  have h4 : Only (fun k => k = D.nm ∨ k = D.jm) w3 w4 := (Only.refl (fun k => k = D.nm ∨ k = D.jm) w3).trans f4
  refine ⟨clk, w1, w2, clk2, w3, w4, run1, run2, run3, run4, ?_, ((h1.trans h2).trans h3).trans h4, hn4, hp4, ?_⟩
  ·  omega
  · have hnl : D.nm < W.heap.size := by have := hN.lt;  omega
    have hjl : D.jm < W.heap.size := by have := hJ.lt;  omega
    have hg : ¬ (W.heap.size = D.nm ∨ W.heap.size = D.jm) := by omega
    exact (h4.keep (h3.keep (h2.keep (f1.keep (blk_new W _) hg) hg) hg) hg)
theorem chainB {W : World} {D : DMem} {d : Desk} {name : ByteArray} (hN : SMap W D.nm (nameList d.js)) (hJ : SMap W D.jm (jobList d.js D.ms)) (hne : D.nm ≠ D.jm) (hf : findN name d.js = none) (hb : ∀ e ∈ d.js, 1 ≤ e.1 ∧ e.1 ≤ d.last) :
    ∃ clk w1 w2 clk2 w3 w4, (Instr.mapEntry 45 (.map (some D.nm)) (.string name)).run Try.prog W.drew = .ok (.tuple #[.int .i64 0, .int .i64 (clk : Nat)]) w1 ∧ (Instr.entryStore 45 (.map (some D.nm)) (.int .i64 (clk : Nat)) (.int .i64 ((d.last : Int) + 1))).run Try.prog (w1.alloc (.cells #[.string name, .slice none 0 0, .int .i64 0, .int .i64 0] 69)) = .ok () w2 ∧ (Instr.mapEntry 46 (.map (some D.jm)) (.int .i64 ((d.last : Int) + 1))).run Try.prog w2 = .ok (.tuple #[.pointer none, .int .i64 (clk2 : Nat)]) w3 ∧ (Instr.entryStore 46 (.map (some D.jm)) (.int .i64 (clk2 : Nat)) (.pointer (some ⟨w1.heap.size, 0, none⟩))).run Try.prog w3 = .ok () w4 ∧ NewFin W D d name w1.heap.size w4 := by
  obtain ⟨clk, w1, run1, hp1, ho1⟩ := run_mapEntry_s (P := Try.prog) (w := W.drew) (t := 45) (k := .string name) Try.underlying45 Try.underlying9 trivial zero3 hN (names_key _) (findN_none hf)
  have hj1 : SMap w1 D.jm _ := SMap.only (w := W.drew) hJ ho1 (fun q => hne q.symm)
  obtain ⟨w2, run2, hp2, ho2⟩ := run_entryStore_s (P := Try.prog) (w := (w1.alloc (.cells #[.string name, .slice none 0 0, .int .i64 0, .int .i64 0] 69))) (t := 45) (pm_alloc hp1 _) (.int .i64 ((d.last : Int) + 1))
  have hj2 : SMap w2 D.jm _ := SMap.only (w := (w1.alloc (.cells #[.string name, .slice none 0 0, .int .i64 0, .int .i64 0] 69))) (sm_alloc hj1 _) ho2 (fun q => hne q.symm)
  obtain ⟨clk2, w3, run3, hp3, ho3⟩ := run_mapEntry_s (P := Try.prog) (w := w2) (t := 46) (k := .int .i64 ((d.last : Int) + 1)) Try.underlying46 Try.underlying3 rfl zero67 hj2 (jobs_key _ _) (no_job hb)
  have hn3 : SMap w3 D.nm _ := SMap.only (w := w2) hp2 ho3 (fun q => hne q)
  obtain ⟨w4, run4, hp4, ho4⟩ := run_entryStore_s (P := Try.prog) (w := w3) (t := 46) hp3 (.pointer (some ⟨w1.heap.size, 0, none⟩))
  have hn4 : SMap w4 D.nm _ := SMap.only (w := w3) hn3 ho4 (fun q => hne q)
  have f1 : Only (fun k => k = D.nm ∨ k = D.jm) W.drew w1 := ho1.mono (fun _ _ q => .inl q)
  have f2 : Only (fun k => k = D.nm ∨ k = D.jm) (w1.alloc (.cells #[.string name, .slice none 0 0, .int .i64 0, .int .i64 0] 69)) w2 := ho2.mono (fun _ _ q => .inl q)
  have f3 : Only (fun k => k = D.nm ∨ k = D.jm) w2 w3 := ho3.mono (fun _ _ q => .inr q)
  have f4 : Only (fun k => k = D.nm ∨ k = D.jm) w3 w4 := ho4.mono (fun _ _ q => .inr q)
  have h1 : Only (fun k => k = D.nm ∨ k = D.jm) W w1 := (Only.drew (Only.refl (fun k => k = D.nm ∨ k = D.jm) W)).trans f1
  have h2 : Only (fun k => k = D.nm ∨ k = D.jm) w1 w2 := ((Only.refl (fun k => k = D.nm ∨ k = D.jm) w1).alloc _).trans f2
  have h3 : Only (fun k => k = D.nm ∨ k = D.jm) w2 w3 := (Only.refl (fun k => k = D.nm ∨ k = D.jm) w2).trans f3
  have h4 : Only (fun k => k = D.nm ∨ k = D.jm) w3 w4 := (Only.refl (fun k => k = D.nm ∨ k = D.jm) w3).trans f4
  refine ⟨clk, w1, w2, clk2, w3, w4, run1, run2, run3, run4, ?_, ((h1.trans h2).trans h3).trans h4, hn4, hp4, ?_⟩
  · have := h1.size; omega
  · have hnl : D.nm < w1.heap.size := by have := hN.lt; have := h1.size; omega
    have hjl : D.jm < w1.heap.size := by have := hJ.lt; have := h1.size; omega
    have hg : ¬ (w1.heap.size = D.nm ∨ w1.heap.size = D.jm) := by omega
    exact (h4.keep (h3.keep (f2.keep (blk_new w1 _) hg) hg) hg)
theorem chainC {W : World} {D : DMem} {d : Desk} {name : ByteArray} (hN : SMap W D.nm (nameList d.js)) (hJ : SMap W D.jm (jobList d.js D.ms)) (hne : D.nm ≠ D.jm) (hf : findN name d.js = none) (hb : ∀ e ∈ d.js, 1 ≤ e.1 ∧ e.1 ≤ d.last) :
    ∃ clk w1 w2 clk2 w3 w4, (Instr.mapEntry 45 (.map (some D.nm)) (.string name)).run Try.prog W.drew = .ok (.tuple #[.int .i64 0, .int .i64 (clk : Nat)]) w1 ∧ (Instr.entryStore 45 (.map (some D.nm)) (.int .i64 (clk : Nat)) (.int .i64 ((d.last : Int) + 1))).run Try.prog w1 = .ok () w2 ∧ (Instr.mapEntry 46 (.map (some D.jm)) (.int .i64 ((d.last : Int) + 1))).run Try.prog (w2.alloc (.cells #[.string name, .slice none 0 0, .int .i64 0, .int .i64 0] 69)) = .ok (.tuple #[.pointer none, .int .i64 (clk2 : Nat)]) w3 ∧ (Instr.entryStore 46 (.map (some D.jm)) (.int .i64 (clk2 : Nat)) (.pointer (some ⟨w2.heap.size, 0, none⟩))).run Try.prog w3 = .ok () w4 ∧ NewFin W D d name w2.heap.size w4 := by
  obtain ⟨clk, w1, run1, hp1, ho1⟩ := run_mapEntry_s (P := Try.prog) (w := W.drew) (t := 45) (k := .string name) Try.underlying45 Try.underlying9 trivial zero3 hN (names_key _) (findN_none hf)
  have hj1 : SMap w1 D.jm _ := SMap.only (w := W.drew) hJ ho1 (fun q => hne q.symm)
  obtain ⟨w2, run2, hp2, ho2⟩ := run_entryStore_s (P := Try.prog) (w := w1) (t := 45) hp1 (.int .i64 ((d.last : Int) + 1))
  have hj2 : SMap w2 D.jm _ := SMap.only (w := w1) hj1 ho2 (fun q => hne q.symm)
  obtain ⟨clk2, w3, run3, hp3, ho3⟩ := run_mapEntry_s (P := Try.prog) (w := (w2.alloc (.cells #[.string name, .slice none 0 0, .int .i64 0, .int .i64 0] 69))) (t := 46) (k := .int .i64 ((d.last : Int) + 1)) Try.underlying46 Try.underlying3 rfl zero67 (sm_alloc hj2 _) (jobs_key _ _) (no_job hb)
  have hn3 : SMap w3 D.nm _ := SMap.only (w := (w2.alloc (.cells #[.string name, .slice none 0 0, .int .i64 0, .int .i64 0] 69))) (sm_alloc hp2 _) ho3 (fun q => hne q)
  obtain ⟨w4, run4, hp4, ho4⟩ := run_entryStore_s (P := Try.prog) (w := w3) (t := 46) hp3 (.pointer (some ⟨w2.heap.size, 0, none⟩))
  have hn4 : SMap w4 D.nm _ := SMap.only (w := w3) hn3 ho4 (fun q => hne q)
  have f1 : Only (fun k => k = D.nm ∨ k = D.jm) W.drew w1 := ho1.mono (fun _ _ q => .inl q)
  have f2 : Only (fun k => k = D.nm ∨ k = D.jm) w1 w2 := ho2.mono (fun _ _ q => .inl q)
  have f3 : Only (fun k => k = D.nm ∨ k = D.jm) (w2.alloc (.cells #[.string name, .slice none 0 0, .int .i64 0, .int .i64 0] 69)) w3 := ho3.mono (fun _ _ q => .inr q)
  have f4 : Only (fun k => k = D.nm ∨ k = D.jm) w3 w4 := ho4.mono (fun _ _ q => .inr q)
  have h1 : Only (fun k => k = D.nm ∨ k = D.jm) W w1 := (Only.drew (Only.refl (fun k => k = D.nm ∨ k = D.jm) W)).trans f1
  have h2 : Only (fun k => k = D.nm ∨ k = D.jm) w1 w2 := (Only.refl (fun k => k = D.nm ∨ k = D.jm) w1).trans f2
  have h3 : Only (fun k => k = D.nm ∨ k = D.jm) w2 w3 := ((Only.refl (fun k => k = D.nm ∨ k = D.jm) w2).alloc _).trans f3
  have h4 : Only (fun k => k = D.nm ∨ k = D.jm) w3 w4 := (Only.refl (fun k => k = D.nm ∨ k = D.jm) w3).trans f4
  refine ⟨clk, w1, w2, clk2, w3, w4, run1, run2, run3, run4, ?_, ((h1.trans h2).trans h3).trans h4, hn4, hp4, ?_⟩
  · have := h1.size; have := h2.size; omega
  · have hnl : D.nm < w2.heap.size := by have := hN.lt; have := h1.size; have := h2.size; omega
    have hjl : D.jm < w2.heap.size := by have := hJ.lt; have := h1.size; have := h2.size; omega
    have hg : ¬ (w2.heap.size = D.nm ∨ w2.heap.size = D.jm) := by omega
    exact (h4.keep (f3.keep (blk_new w2 _) hg) hg)
theorem chainD {W : World} {D : DMem} {d : Desk} {name : ByteArray} (hN : SMap W D.nm (nameList d.js)) (hJ : SMap W D.jm (jobList d.js D.ms)) (hne : D.nm ≠ D.jm) (hf : findN name d.js = none) (hb : ∀ e ∈ d.js, 1 ≤ e.1 ∧ e.1 ≤ d.last) :
    ∃ clk w1 w2 clk2 w3 w4, (Instr.mapEntry 45 (.map (some D.nm)) (.string name)).run Try.prog W.drew = .ok (.tuple #[.int .i64 0, .int .i64 (clk : Nat)]) w1 ∧ (Instr.entryStore 45 (.map (some D.nm)) (.int .i64 (clk : Nat)) (.int .i64 ((d.last : Int) + 1))).run Try.prog w1 = .ok () w2 ∧ (Instr.mapEntry 46 (.map (some D.jm)) (.int .i64 ((d.last : Int) + 1))).run Try.prog w2 = .ok (.tuple #[.pointer none, .int .i64 (clk2 : Nat)]) w3 ∧ (Instr.entryStore 46 (.map (some D.jm)) (.int .i64 (clk2 : Nat)) (.pointer (some ⟨w3.heap.size, 0, none⟩))).run Try.prog (w3.alloc (.cells #[.string name, .slice none 0 0, .int .i64 0, .int .i64 0] 69)) = .ok () w4 ∧ NewFin W D d name w3.heap.size w4 := by
  obtain ⟨clk, w1, run1, hp1, ho1⟩ := run_mapEntry_s (P := Try.prog) (w := W.drew) (t := 45) (k := .string name) Try.underlying45 Try.underlying9 trivial zero3 hN (names_key _) (findN_none hf)
  have hj1 : SMap w1 D.jm _ := SMap.only (w := W.drew) hJ ho1 (fun q => hne q.symm)
  obtain ⟨w2, run2, hp2, ho2⟩ := run_entryStore_s (P := Try.prog) (w := w1) (t := 45) hp1 (.int .i64 ((d.last : Int) + 1))
  have hj2 : SMap w2 D.jm _ := SMap.only (w := w1) hj1 ho2 (fun q => hne q.symm)
  obtain ⟨clk2, w3, run3, hp3, ho3⟩ := run_mapEntry_s (P := Try.prog) (w := w2) (t := 46) (k := .int .i64 ((d.last : Int) + 1)) Try.underlying46 Try.underlying3 rfl zero67 hj2 (jobs_key _ _) (no_job hb)
  have hn3 : SMap w3 D.nm _ := SMap.only (w := w2) hp2 ho3 (fun q => hne q)
  obtain ⟨w4, run4, hp4, ho4⟩ := run_entryStore_s (P := Try.prog) (w := (w3.alloc (.cells #[.string name, .slice none 0 0, .int .i64 0, .int .i64 0] 69))) (t := 46) (pm_alloc hp3 _) (.pointer (some ⟨w3.heap.size, 0, none⟩))
  have hn4 : SMap w4 D.nm _ := SMap.only (w := (w3.alloc (.cells #[.string name, .slice none 0 0, .int .i64 0, .int .i64 0] 69))) (sm_alloc hn3 _) ho4 (fun q => hne q)
  have f1 : Only (fun k => k = D.nm ∨ k = D.jm) W.drew w1 := ho1.mono (fun _ _ q => .inl q)
  have f2 : Only (fun k => k = D.nm ∨ k = D.jm) w1 w2 := ho2.mono (fun _ _ q => .inl q)
  have f3 : Only (fun k => k = D.nm ∨ k = D.jm) w2 w3 := ho3.mono (fun _ _ q => .inr q)
  have f4 : Only (fun k => k = D.nm ∨ k = D.jm) (w3.alloc (.cells #[.string name, .slice none 0 0, .int .i64 0, .int .i64 0] 69)) w4 := ho4.mono (fun _ _ q => .inr q)
  have h1 : Only (fun k => k = D.nm ∨ k = D.jm) W w1 := (Only.drew (Only.refl (fun k => k = D.nm ∨ k = D.jm) W)).trans f1
  have h2 : Only (fun k => k = D.nm ∨ k = D.jm) w1 w2 := (Only.refl (fun k => k = D.nm ∨ k = D.jm) w1).trans f2
  have h3 : Only (fun k => k = D.nm ∨ k = D.jm) w2 w3 := (Only.refl (fun k => k = D.nm ∨ k = D.jm) w2).trans f3
  have h4 : Only (fun k => k = D.nm ∨ k = D.jm) w3 w4 := ((Only.refl (fun k => k = D.nm ∨ k = D.jm) w3).alloc _).trans f4
  refine ⟨clk, w1, w2, clk2, w3, w4, run1, run2, run3, run4, ?_, ((h1.trans h2).trans h3).trans h4, hn4, hp4, ?_⟩
  · have := h1.size; have := h2.size; have := h3.size; omega
  · have hnl : D.nm < w3.heap.size := by have := hN.lt; have := h1.size; have := h2.size; have := h3.size; omega
    have hjl : D.jm < w3.heap.size := by have := hJ.lt; have := h1.size; have := h2.size; have := h3.size; omega
    have hg : ¬ (w3.heap.size = D.nm ∨ w3.heap.size = D.jm) := by omega
    exact (f4.keep (blk_new w3 _) hg)
theorem nameList_app (js : List (Nat × Job)) (id : Nat) (j : Job) (hs : j.state = 0) : nameList (js ++ [(id, j)]) = nameList js ++ [(.string j.name, .int .i64 (id : Nat))] := by
  simp [nameList, runs, hs]
theorem jobList_app (js : List (Nat × Job)) (ms : List JMem) (id : Nat) (j : Job) (m : JMem) (hl : ms.length = js.length) : jobList (js ++ [(id, j)]) (ms ++ [m]) = jobList js ms ++ [(.int .i64 (id : Nat), ptr m.blk)] := by
  unfold jobList
  rw [List.zipWith_append hl.symm]
  rfl
theorem new_end {w W w4 : World} {D : DMem} {d : Desk} {name : ByteArray} {g : Nat} (h : DeskAt w D d) (hl : ¬ 1024 ≤ d.js.length) (hq : Only (· = D.p) w W) (hWp : W.heap[D.p]? = some (.cells #[.map (some D.nm), .map (some D.jm), .int .i64 ((d.last : Int) + 1)] 48 (0, 0))) (hf : NewFin W D d name g w4) :
    DeskAt (w4.setCell ⟨g, 3, none⟩ (.int .i64 1)) { D with ms := D.ms ++ [⟨g, none, 0⟩] } ⟨d.js ++ [(d.last + 1, ⟨name, [], 0, 1⟩)], d.last + 1⟩ ∧ DStep w (w4.setCell ⟨g, 3, none⟩ (.int .i64 1)) D { D with ms := D.ms ++ [⟨g, none, 0⟩] } := by
  have hglo : w.heap.size ≤ g := Nat.le_trans hq.size hf.lo
  have hset : Only (· = g) w4 (w4.setCell ⟨g, 3, none⟩ (.int .i64 1)) := Only.setCell (S := (· = g)) (p := ⟨g, 3, none⟩) (Only.refl _ _) (fun _ => rfl) _
  have hpl := lt_of_heap h.desk
  have hnl := h.names.lt
  have hjl := h.jobs.lt
  have hO : Only (fun k => k = D.p ∨ k = D.nm ∨ k = D.jm) w (w4.setCell ⟨g, 3, none⟩ (.int .i64 1)) :=
    Only.setCell (S := fun k => k = D.p ∨ k = D.nm ∨ k = D.jm) (p := ⟨g, 3, none⟩) ((hq.mono (fun _ _ q => .inl q)).trans (hf.only.mono (fun _ _ q => .inr q))) (fun q => by simp at q; omega) _
  have hfr : ∀ k, JOwns ⟨g, none, 0⟩ k → k = g := fun k hk => by
    rcases hk with hk | ⟨a, ha, _⟩
    · exact hk
    · cases ha
  refine ⟨⟨by simp [h.len], by simp; omega, ?_, ?_, ?_, h.ne, fun i m e hm he => ?_, fun i j m m' hij hm hm' k hk hk' => ?_, fun e he => ?_, fun e he => ?_⟩, rfl, hO.mono (fun k _ hk => ?_), fun k hk => ?_⟩
  · have := hset.keep (hf.only.keep hWp (fun q => q.elim h.p_ne.1 h.p_ne.2)) (fun q => by omega)
    simpa using this
  · rw [nameList_app _ _ _ rfl]
    simpa using hf.names.only hset (fun q => by omega)
  · rw [jobList_app _ _ _ _ _ h.len]
    simpa [ptr] using hf.jobs.only hset (fun q => by omega)
  · by_cases hi : i < d.js.length
    · rw [List.getElem?_append_left (by rw [h.len]; exact hi)] at hm
      rw [List.getElem?_append_left hi] at he
      exact (h.at_ i m e hm he).keep hO (fun k hk q => by
        have := h.job_ne (List.mem_of_getElem? hm) hk
        rcases q with q | q | q
        · exact this.1 q
        · exact this.2.1 q
        · exact this.2.2 q)
    · rw [List.getElem?_append_right (by rw [h.len]; omega)] at hm
      rw [List.getElem?_append_right (by omega)] at he
      have h1 := List.mem_of_getElem? hm
      have h2 := List.mem_of_getElem? he
      rw [List.mem_singleton] at h1 h2
      subst h1 h2
      exact ⟨by simpa [jobCells] using blk_set hf.job 3 (.int .i64 1), Sl.nil _ _, by simp⟩
  · by_cases hi : i < D.ms.length
    · rw [List.getElem?_append_left hi] at hm
      by_cases hj : j < D.ms.length
      · rw [List.getElem?_append_left hj] at hm'
        exact h.apart i j m m' hij hm hm' k hk hk'
      · rw [List.getElem?_append_right (by omega)] at hm'
        have h1 := List.mem_of_getElem? hm'
        rw [List.mem_singleton] at h1
        subst h1
        have := hfr k hk'
        have := h.lt (.inr (.inr (.inr ⟨m, List.mem_of_getElem? hm, hk⟩)))
        omega
    · rw [List.getElem?_append_right (by omega)] at hm
      have h1 := List.mem_of_getElem? hm
      rw [List.mem_singleton] at h1
      subst h1
      have hk0 := hfr k hk
      by_cases hj : j < D.ms.length
      · rw [List.getElem?_append_left hj] at hm'
        have := h.lt (.inr (.inr (.inr ⟨m', List.mem_of_getElem? hm', hk'⟩)))
        omega
      · have hil := (List.getElem?_eq_some_iff.1 hm).1
        rw [List.getElem?_append_right (by omega)] at hm'
        have hjl := (List.getElem?_eq_some_iff.1 hm').1
        simp at hil hjl
        omega
  · rcases List.mem_append.1 he with he | he
    · have := h.bound e he; simp; omega
    · rw [List.mem_singleton] at he; subst he; simp
  · rcases List.mem_append.1 he with he | he
    · exact h.kept e he
    · rw [List.mem_singleton] at he; subst he; simp
  · rcases hk with hk | hk | hk
    · exact .inl hk
    · exact .inr (.inl hk)
    · exact .inr (.inr (.inl hk))
  · rcases hk with hk | hk | hk | ⟨m2, hm2, hk⟩
    · exact .inl (.inl hk)
    · exact .inl (.inr (.inl hk))
    · exact .inl (.inr (.inr (.inl hk)))
    · rcases List.mem_append.1 hm2 with hm2 | hm2
      · exact .inl (.inr (.inr (.inr ⟨m2, hm2, hk⟩)))
      · rw [List.mem_singleton] at hm2
        subst hm2
        have := hfr k hk
        exact .inr (by omega)
theorem kget_app {k v : Value} : ∀ {l : List (Value × Value)}, (∀ x ∈ l, x.1 ≠ k) → kget k (l ++ [(k, v)]) = some v
  | [], _ => by simp [kget]
  | a :: r, h => by
    have h1 := h a (.head _)
    simp only [List.cons_append, kget, if_neg h1]
    exact kget_app fun x hx => h x (.tail _ hx)
theorem look_new {W w4 : World} {D : DMem} {d : Desk} {name : ByteArray} {g : Nat} (hf : NewFin W D d name g w4) (hb : ∀ e ∈ d.js, 1 ≤ e.1 ∧ e.1 ≤ d.last) :
    (Instr.lookup 46 (.map (some D.jm)) (.int .i64 ((d.last : Int) + 1)) false).run Try.prog w4 = .ok (.pointer (some ⟨g, 0, none⟩)) w4 := by
  have := run_lookup_k (P := Try.prog) (t := 46) (kt := 3) (et := 67) (d := .int .i64) (k := .int .i64 ((d.last : Int) + 1)) Try.underlying46 Try.underlying3 rfl (z := .pointer none) zero67 hf.jobs.kmap (fun x hx => by
    rcases List.mem_append.1 hx with hx | hx
    · exact jobs_key _ _ x hx
    · rw [List.mem_singleton] at hx; subst hx; rfl) false
  rw [kget_app (no_job hb)] at this
  exact this
set_option maxHeartbeats 8000000 in
theorem begin_new {w : World} {D : DMem} {d : Desk} (h : DeskAt w D d) (name : ByteArray) (hb : ¬ 1024 < name.size) (hf : findN name d.js = none) (hl : ¬ 1024 ≤ d.js.length) (hlast : d.last < 4611686018427387904) :
    Calls Try.prog 9 #[.pointer (some ⟨D.p, 0, none⟩), .string name] w fun x w' => x = .returned (.tuple #[.int .i64 ((d.last : Int) + 1), .bool true, .int .i64 0]) ∧
      ∃ D', DeskAt w' D' ⟨d.js ++ [(d.last + 1, ⟨name, [], 0, 1⟩)], d.last + 1⟩ ∧ DStep w w' D D' := by
  have dd : decide ((1024 : Int) < (name.size : Int)) = false := by simp; omega
  have d2 : decide ((1024 : Int) ≤ (d.js.length : Int)) = false := by simp; omega
  have hp0 : w.cell? ⟨D.p, 0, none⟩ = some (.map (some D.nm)) := blk_cell h.desk 0
  have hp1 : w.cell? ⟨D.p, 1, none⟩ = some (.map (some D.jm)) := blk_cell h.desk 1
  have hp2 : w.cell? ⟨D.p, 2, none⟩ = some (.int .i64 (d.last : Nat)) := blk_cell h.desk 2
  have hpf := blk_frozen h.desk 2
  have hps := lt_of_heap h.desk
  have hl1 := look_name_none h hf
  have hl2 := len_jobs h
  have hne := h.ne
  have HB := Lib.hid h.bound
  have H := Lib.hid h; clear h
  have HF := Lib.hid hf; clear hf
  go_enter Try.func9, Try.ntmps9
  go_wp2
  have hq : Only (· = D.p) w (w.setCell ⟨D.p, 2, none⟩ (.int .i64 ((d.last : Int) + 1))) := Only.setCell (S := (· = D.p)) (p := ⟨D.p, 2, none⟩) (Only.refl _ _) (fun _ => rfl) _
  obtain ⟨W, hW⟩ : ∃ W, W = w.setCell ⟨D.p, 2, none⟩ (.int .i64 ((d.last : Int) + 1)) := ⟨_, rfl⟩
  rw [← hW] at hq ⊢
  have hWp : W.heap[D.p]? = some (.cells #[.map (some D.nm), .map (some D.jm), .int .i64 ((d.last : Int) + 1)] 48 (0, 0)) := by rw [hW]; simpa using blk_set H.out.desk 2 (.int .i64 ((d.last : Int) + 1))
  clear hW hl1 hl2 hp0 hp1 hp2 hpf
  have hP0 : W.cell? ⟨D.p, 0, none⟩ = some (.map (some D.nm)) := blk_cell hWp 0
  have hP1 : W.cell? ⟨D.p, 1, none⟩ = some (.map (some D.jm)) := blk_cell hWp 1
  have hPs := lt_of_heap hWp
  have HN := Lib.hid (show SMap W D.nm (nameList d.js) from H.out.names.only hq (fun q => H.out.p_ne.1 q.symm))
  have HJ := Lib.hid (show SMap W D.jm (jobList d.js D.ms) from H.out.jobs.only hq (fun q => H.out.p_ne.2 q.symm))
  have HQ := Lib.hid hq; clear hq
  have HWP := Lib.hid hWp; clear hWp
  obtain ⟨clka, w1a, w2a, clk2a, w3a, w4a, r1a, r2a, r3a, r4a, fina⟩ := chainA HN.out HJ.out hne HF.out H.out.bound
  have la := look_new fina HB.out
  have ca : _ = some (Value.int .i64 0) := blk_cell fina.job 3
  have za := blk_frozen fina.job 3
  have pa : w4a.cell? ⟨D.p, 1, none⟩ = some (.map (some D.jm)) := blk_cell (fina.only.keep HWP.out (fun q => q.elim H.out.p_ne.1 H.out.p_ne.2)) 1
  have Fa := Lib.hid fina; clear fina
  obtain ⟨clkb, w1b, w2b, clk2b, w3b, w4b, r1b, r2b, r3b, r4b, finb⟩ := chainB HN.out HJ.out hne HF.out H.out.bound
  have lb := look_new finb HB.out
  have cb : _ = some (Value.int .i64 0) := blk_cell finb.job 3
  have zb := blk_frozen finb.job 3
  have pb : w4b.cell? ⟨D.p, 1, none⟩ = some (.map (some D.jm)) := blk_cell (finb.only.keep HWP.out (fun q => q.elim H.out.p_ne.1 H.out.p_ne.2)) 1
  have Fb := Lib.hid finb; clear finb
  obtain ⟨clkc, w1c, w2c, clk2c, w3c, w4c, r1c, r2c, r3c, r4c, finc⟩ := chainC HN.out HJ.out hne HF.out H.out.bound
  have lc := look_new finc HB.out
  have cc : _ = some (Value.int .i64 0) := blk_cell finc.job 3
  have zc := blk_frozen finc.job 3
  have pc : w4c.cell? ⟨D.p, 1, none⟩ = some (.map (some D.jm)) := blk_cell (finc.only.keep HWP.out (fun q => q.elim H.out.p_ne.1 H.out.p_ne.2)) 1
  have Fc := Lib.hid finc; clear finc
  obtain ⟨clkd, w1d, w2d, clk2d, w3d, w4d, r1d, r2d, r3d, r4d, find⟩ := chainD HN.out HJ.out hne HF.out H.out.bound
  have ld := look_new find HB.out
  have cd : _ = some (Value.int .i64 0) := blk_cell find.job 3
  have zd := blk_frozen find.job 3
  have pd : w4d.cell? ⟨D.p, 1, none⟩ = some (.map (some D.jm)) := blk_cell (find.only.keep HWP.out (fun q => q.elim H.out.p_ne.1 H.out.p_ne.2)) 1
  have Fd := Lib.hid find; clear find
  have q1 := r1b.symm.trans r1c
  simp at q1
  obtain ⟨q1, q2⟩ := q1
  subst q2
  obtain rfl : clkb = clkc := by omega
  have q3 := r1b.symm.trans r1d
  simp at q3
  obtain ⟨q3, q4⟩ := q3
  subst q4
  obtain rfl : clkb = clkd := by omega
  have q5 := r2c.symm.trans r2d
  simp at q5
  subst q5
  clear q1 q3 r1c r1d r2d
  go_region
  all_goals
    go_wp2
    first
    | exact bodyPost_ret (v := .tuple #[.int .i64 ((d.last : Int) + 1), .bool true, .int .i64 0]) (by simp [results, Try.results9, go_sem]) rfl ⟨rfl, _, (new_end H.out hl HQ.out HWP.out Fa.out).1, (new_end H.out hl HQ.out HWP.out Fa.out).2⟩
    | exact bodyPost_ret (v := .tuple #[.int .i64 ((d.last : Int) + 1), .bool true, .int .i64 0]) (by simp [results, Try.results9, go_sem]) rfl ⟨rfl, _, (new_end H.out hl HQ.out HWP.out Fb.out).1, (new_end H.out hl HQ.out HWP.out Fb.out).2⟩
    | exact bodyPost_ret (v := .tuple #[.int .i64 ((d.last : Int) + 1), .bool true, .int .i64 0]) (by simp [results, Try.results9, go_sem]) rfl ⟨rfl, _, (new_end H.out hl HQ.out HWP.out Fc.out).1, (new_end H.out hl HQ.out HWP.out Fc.out).2⟩
    | exact bodyPost_ret (v := .tuple #[.int .i64 ((d.last : Int) + 1), .bool true, .int .i64 0]) (by simp [results, Try.results9, go_sem]) rfl ⟨rfl, _, (new_end H.out hl HQ.out HWP.out Fd.out).1, (new_end H.out hl HQ.out HWP.out Fd.out).2⟩
end Go.Proofs.Ytffockkdiimneaa
