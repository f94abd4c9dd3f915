/-
  Begin, whatever the desk holds. No conditions.
-/
import Derived.Test.YtffockkdiimneaaBeginNew
namespace Go.Proofs.Ytffockkdiimneaa
open Go.RowKit Go.MapKept

theorem findJ_at {d : Desk} {w : World} {D : DMem} (h : DeskAt w D d) {i : Nat} {e : Nat × Job} (he : d.js[i]? = some e) : findJ (e.1 : Int) d.js = some i := by
  have hk := h.jobs.keys
  have hids : (d.js.map (·.1)).Nodup := by
    have e1 : (jobList d.js D.ms).map (·.1) = (d.js.map (·.1)).map fun n => Value.int .i64 (n : Nat) := by
      refine List.ext_getElem? fun j => ?_
      unfold jobList
      rw [List.getElem?_map, List.getElem?_zipWith, List.getElem?_map, List.getElem?_map]
      cases hj : d.js[j]? with
      | none => simp
      | some x =>
        obtain ⟨m, hm, _⟩ := h.there hj
        simp [hm]
    rw [e1] at hk
    rw [List.Nodup] at hk ⊢
    rw [List.pairwise_map] at hk
    exact hk.imp fun hn q => hn (by rw [q])
  clear h hk
  generalize d.js = js at he hids
  induction js generalizing i with
  | nil => simp at he
  | cons a r ih =>
    cases i with
    | zero => simp at he; subst he; simp [findJ]
    | succ i =>
      simp at he
      simp only [List.map_cons, List.nodup_cons] at hids
      have hne : ¬ ((a.1 : Int) = (e.1 : Int)) := fun q => hids.1 (List.mem_map.2 ⟨e, List.mem_of_getElem? he, by omega⟩)
      simp [findJ, hne, ih he hids.2]
theorem begin_at {w : World} {D : DMem} {d : Desk} (h : DeskAt w D d) (name : ByteArray) (hlast : d.last < 4611686018427387904) (hpart : ∀ e ∈ d.js, e.2.part < 4611686018427387904) :
    Calls Try.prog 9 #[.pointer (some ⟨D.p, 0, none⟩), .string name] w fun x w' => x = .returned (.tuple #[.int .i64 (beginF d name).1, .bool (beginF d name).2.1, .int .i64 (beginF d name).2.2.1]) ∧
      ∃ D', DeskAt w' D' (beginF d name).2.2.2 ∧ DStep w w' D D' := by
  unfold beginF
  by_cases hb : 1024 < name.size
  · rw [if_pos hb]
    refine (begin_big h name hb).mono ?_
    rintro x w' ⟨rfl, hq⟩
    exact ⟨rfl, D, h.quiet hq, DStep.refl D hq⟩
  · rw [if_neg hb]
    cases hf : findN name d.js with
    | some i =>
      obtain ⟨e, he, _, _⟩ := findN_some hf
      simp only [he, Option.map_some, Option.getD_some]
      exact begin_found h name hb hf he (findJ_at h he) (hpart e (List.mem_of_getElem? he))
    | none =>
      simp only []
      by_cases hl : 1024 ≤ d.js.length
      · rw [if_pos hl]
        refine (begin_full h name hb hf hl).mono ?_
        rintro x w' ⟨rfl, hq⟩
        exact ⟨rfl, D, h.quiet hq, DStep.refl D hq⟩
      · rw [if_neg hl]
        exact begin_new h name hb hf hl hlast
end Go.Proofs.Ytffockkdiimneaa
