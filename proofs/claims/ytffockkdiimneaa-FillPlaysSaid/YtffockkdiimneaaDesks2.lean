/-
  A desk in memory: what it reads, and how it turns. No conditions.
-/
import Derived.Test.YtffockkdiimneaaDesks
namespace Go.Proofs.Ytffockkdiimneaa
open Go.RowKit Go.MapKept

theorem upd_set {js : List (Nat × Job)} {i : Nat} {e : Nat × Job} (he : js[i]? = some e) (f : Job → Job) : upd js i f = js.set i (e.1, f e.2) := by
  refine List.ext_getElem? fun j => ?_
  unfold upd
  rw [List.getElem?_modify, List.getElem?_set]
  by_cases hj : i = j
  · subst hj
    simp [(List.getElem?_eq_some_iff.1 he).1, (List.getElem?_eq_some_iff.1 he).2]
  · simp [hj]
theorem jobList_set {js : List (Nat × Job)} {ms : List JMem} {i : Nat} {e : Nat × Job} {m m' : JMem} (he : js[i]? = some e) (hm : ms[i]? = some m) (hb : m'.blk = m.blk) (j : Job) : jobList (js.set i (e.1, j)) (ms.set i m') = jobList js ms := by
  refine List.ext_getElem? fun k => ?_
  unfold jobList
  rw [List.getElem?_zipWith, List.getElem?_zipWith, List.getElem?_set, List.getElem?_set]
  by_cases hk : i = k
  · subst hk
    simp [(List.getElem?_eq_some_iff.1 he).1, (List.getElem?_eq_some_iff.1 hm).1, (List.getElem?_eq_some_iff.1 he).2, (List.getElem?_eq_some_iff.1 hm).2, hb]
  · simp [hk]
theorem nameList_set : ∀ {js : List (Nat × Job)} {i : Nat} {e : Nat × Job} (j : Job), js[i]? = some e → j.name = e.2.name → j.state = e.2.state → nameList (js.set i (e.1, j)) = nameList js
  | [], i, e, j, h, _, _ => by simp at h
  | a :: r, i, e, j, h, hn, hs => by
    cases i with
    | zero =>
      simp at h
      subst h
      unfold nameList
      simp only [List.set_cons_zero, runs_cons, hs]
      split <;> simp [hn]
    | succ i =>
      simp at h
      have := nameList_set (js := r) j h hn hs
      unfold nameList at this ⊢
      simp only [List.set_cons_succ, runs_cons]
      split <;> simp [this]
theorem nameList_erase : ∀ {js : List (Nat × Job)} {i : Nat} {e : Nat × Job}, js[i]? = some e → e.2.state ≠ 0 → nameList (js.eraseIdx i) = nameList js
  | [], i, e, h, _ => by simp at h
  | a :: r, i, e, h, hs => by
    cases i with
    | zero =>
      simp at h
      subst h
      unfold nameList
      simp [runs_cons, hs]
    | succ i =>
      simp at h
      have := nameList_erase (js := r) h hs
      unfold nameList at this ⊢
      simp only [List.eraseIdx_cons_succ, runs_cons]
      split <;> simp [this]
theorem findJ_some {id : Int} : ∀ {js : List (Nat × Job)} {i : Nat}, findJ id js = some i → ∃ e, js[i]? = some e ∧ (e.1 : Int) = id
  | [], _, h => by simp [findJ] at h
  | a :: r, i, h => by
    unfold findJ at h
    split at h
    · obtain rfl := Option.some.inj h
      exact ⟨a, rfl, by assumption⟩
    · rw [Option.map_eq_some_iff] at h
      obtain ⟨j, hj, rfl⟩ := h
      obtain ⟨e, h1, h2⟩ := findJ_some hj
      exact ⟨e, by simpa using h1, h2⟩
theorem findJ_none {id : Int} : ∀ {js : List (Nat × Job)}, findJ id js = none → ∀ e ∈ js, (e.1 : Int) ≠ id
  | [], _, e, he => by cases he
  | a :: r, h, e, he => by
    unfold findJ at h
    split at h
    · cases h
    · rw [Option.map_eq_none_iff] at h
      rcases List.mem_cons.1 he with rfl | he
      · assumption
      · exact findJ_none h e he
theorem findN_some {name : ByteArray} : ∀ {js : List (Nat × Job)} {i : Nat}, findN name js = some i → ∃ e, js[i]? = some e ∧ e.2.name = name ∧ e.2.state = 0
  | [], _, h => by simp [findN] at h
  | a :: r, i, h => by
    unfold findN at h
    split at h
    · rename_i hc
      obtain rfl := Option.some.inj h
      exact ⟨a, rfl, hc.1, hc.2⟩
    · rw [Option.map_eq_some_iff] at h
      obtain ⟨j, hj, rfl⟩ := h
      obtain ⟨e, h1, h2⟩ := findN_some hj
      exact ⟨e, by simpa using h1, h2⟩
theorem findN_none {name : ByteArray} : ∀ {js : List (Nat × Job)}, findN name js = none → ∀ x ∈ nameList js, x.1 ≠ .string name
  | [], _, x, hx => by simp [nameList, runs] at hx
  | a :: r, h, x, hx => by
    unfold findN at h
    split at h
    · cases h
    · rename_i hc
      rw [Option.map_eq_none_iff] at h
      have ih := findN_none (js := r) h
      unfold nameList at hx ih
      rw [runs_cons] at hx
      split at hx
      · rename_i hs
        rcases List.mem_cons.1 hx with rfl | hx
        · exact fun q => hc ⟨by injection q, hs⟩
        · exact ih x hx
      · exact ih x hx

theorem JobAt.lt {w : World} {m : JMem} {j : Job} (h : JobAt w m j) {k : Nat} (hk : JOwns m k) : k < w.heap.size := by
  rcases hk with rfl | hk
  · exact lt_of_heap h.blk
  · exact h.sl.lt hk
theorem JobAt.kind {w : World} {m : JMem} {j : Job} (h : JobAt w m j) {k : Nat} (hk : JOwns m k) : ∃ cur e, w.heap[k]? = some (.cells cur e (0, 0)) ∧ (e = 69 ∨ e = 5) := by
  rcases hk with rfl | hk
  · exact ⟨_, _, h.blk, .inl rfl⟩
  · obtain ⟨cur, hc⟩ := h.sl.type hk; exact ⟨_, _, hc, .inr rfl⟩
theorem JobAt.keep {F : Nat → Prop} {w w' : World} {m : JMem} {j : Job} (h : JobAt w m j) (ho : Only F w w') (hF : ∀ k, JOwns m k → ¬ F k) : JobAt w' m j :=
  ⟨ho.keep h.blk (hF _ (.inl rfl)), h.sl.only ho (fun _ hk => hF _ (.inr hk)), h.small⟩
namespace DeskAt
variable {w w' : World} {D : DMem} {d : Desk}
theorem there (h : DeskAt w D d) {i : Nat} {e : Nat × Job} (he : d.js[i]? = some e) : ∃ m, D.ms[i]? = some m ∧ JobAt w m e.2 := by
  have hl : i < D.ms.length := by rw [h.len]; exact (List.getElem?_eq_some_iff.1 he).1
  exact ⟨D.ms[i], List.getElem?_eq_getElem hl, h.at_ i _ _ (List.getElem?_eq_getElem hl) he⟩
theorem mem (h : DeskAt w D d) {m : JMem} (hm : m ∈ D.ms) : ∃ j : Job, JobAt w m j := by
  obtain ⟨i, hi, rfl⟩ := List.getElem_of_mem hm
  have hl : i < d.js.length := by rw [← h.len]; exact hi
  exact ⟨_, h.at_ i _ _ (List.getElem?_eq_getElem hi) (List.getElem?_eq_getElem hl)⟩
theorem lt (h : DeskAt w D d) {k : Nat} (hk : DOwns D k) : k < w.heap.size := by
  rcases hk with rfl | rfl | rfl | ⟨m, hm, hk⟩
  · exact lt_of_heap h.desk
  · exact h.names.lt
  · exact h.jobs.lt
  · obtain ⟨j, hj⟩ := h.mem hm
    exact hj.lt hk
theorem only {F : Nat → Prop} (h : DeskAt w D d) (ho : Only F w w') (hF : ∀ k, DOwns D k → ¬ F k) : DeskAt w' D d :=
  ⟨h.len, h.small, ho.keep h.desk (hF _ (.inl rfl)), h.names.only ho (hF _ (.inr (.inl rfl))), h.jobs.only ho (hF _ (.inr (.inr (.inl rfl)))), h.ne,
    fun i m e hm he => (h.at_ i m e hm he).keep ho (fun k hk => hF k (.inr (.inr (.inr ⟨m, List.mem_of_getElem? hm, hk⟩)))), h.apart, h.bound, h.kept⟩
theorem quiet (h : DeskAt w D d) (ho : Quiet w w') : DeskAt w' D d := h.only ho (fun _ _ x => x)
/-- A fill's blocks are no desk and no map. -/
theorem job_ne (h : DeskAt w D d) {m : JMem} (hm : m ∈ D.ms) {k : Nat} (hk : JOwns m k) : k ≠ D.p ∧ k ≠ D.nm ∧ k ≠ D.jm := by
  obtain ⟨j, hj⟩ := h.mem hm
  obtain ⟨cur, e, hc, he⟩ := hj.kind hk
  refine ⟨fun q => ?_, fun q => ?_, fun q => ?_⟩
  · subst q
    exact blk_ne hc h.desk (by rcases he with rfl | rfl <;> decide) rfl
  · exact h.names.kmap.ne_cells hc q
  · exact h.jobs.kmap.ne_cells hc q
theorem p_ne (h : DeskAt w D d) : D.p ≠ D.nm ∧ D.p ≠ D.jm := ⟨h.names.kmap.ne_cells h.desk, h.jobs.kmap.ne_cells h.desk⟩
/-- One fill's change. -/
theorem change (h : DeskAt w D d) {i : Nat} {m m' : JMem} {e : Nat × Job} {j : Job} (hm : D.ms[i]? = some m) (he : d.js[i]? = some e) (hj : JobAt w' m' j) (hb : m'.blk = m.blk) (hn : SMap w' D.nm (nameList (d.js.set i (e.1, j))))
    (ho : Only (fun k => JOwns m k ∨ k = D.nm) w w') (hg : ∀ k, JOwns m' k → JOwns m k ∨ w.heap.size ≤ k) (hk : ¬ (j.state ≠ 0 ∧ j.part = 0)) :
    DeskAt w' { D with ms := D.ms.set i m' } { d with js := d.js.set i (e.1, j) } ∧ DStep w w' D { D with ms := D.ms.set i m' } := by
  have hmm := List.mem_of_getElem? hm
  have hi := (List.getElem?_eq_some_iff.1 hm).1
  have hil := (List.getElem?_eq_some_iff.1 he).1
  have hj1 : ∀ k, JOwns m k → DOwns D k := fun k hk => .inr (.inr (.inr ⟨m, hmm, hk⟩))
  have hoth : ∀ (i2 : Nat) (m2 : JMem), i2 ≠ i → D.ms[i2]? = some m2 → ∀ k, JOwns m2 k → ¬ JOwns m' k := fun i2 m2 hi2 hm2 k hk hk' => by
    rcases hg k hk' with hk' | hk'
    · exact h.apart i2 i m2 m hi2 hm2 hm k hk hk'
    · have := h.lt (.inr (.inr (.inr ⟨m2, List.mem_of_getElem? hm2, hk⟩))); omega
  refine ⟨⟨by simp [h.len], by simpa using h.small, ho.keep h.desk (fun q => ?_), hn, ?_, h.ne, fun i2 m2 e2 hm2 he2 => ?_, fun i1 i2 m1 m2 hne hm1 hm2 k hk1 hk2 => ?_, fun x hx => ?_, fun x hx => ?_⟩, rfl, ho.mono (fun k _ hk => hk.elim (hj1 k) (fun q => .inr (.inl q))), fun k hk => ?_⟩
  · rcases q with q | q
    · exact (h.job_ne hmm q).1 rfl
    · exact h.p_ne.1 q
  · show SMap w' D.jm (jobList (d.js.set i (e.1, j)) (D.ms.set i m'))
    rw [jobList_set he hm hb]
    exact h.jobs.only ho (fun q => by
      rcases q with q | q
      · exact (h.job_ne hmm q).2.2 rfl
      · exact h.ne q.symm)
  · simp only [List.getElem?_set] at hm2 he2
    by_cases hj : i = i2
    · subst hj
      rw [if_pos rfl, if_pos hi] at hm2
      rw [if_pos rfl, if_pos hil] at he2
      obtain rfl := Option.some.inj hm2
      obtain rfl := Option.some.inj he2
      assumption
    · rw [if_neg hj] at hm2 he2
      refine (h.at_ i2 m2 e2 hm2 he2).keep ho (fun k hk q => ?_)
      rcases q with q | q
      · exact h.apart i2 i m2 m (fun q => hj q.symm) hm2 hm k hk q
      · exact (h.job_ne (List.mem_of_getElem? hm2) hk).2.1 q
  · simp only [List.getElem?_set] at hm1 hm2
    by_cases h1 : i = i1
    · subst h1
      rw [if_pos rfl, if_pos hi] at hm1
      obtain rfl := Option.some.inj hm1
      rw [if_neg (fun e => hne e)] at hm2
      exact hoth i2 m2 (fun e => hne e.symm) hm2 k hk2 hk1
    · rw [if_neg h1] at hm1
      by_cases h2 : i = i2
      · subst h2
        rw [if_pos rfl, if_pos hi] at hm2
        obtain rfl := Option.some.inj hm2
        exact hoth i1 m1 (fun e => hne e) hm1 k hk1 hk2
      · rw [if_neg h2] at hm2
        exact h.apart i1 i2 m1 m2 hne hm1 hm2 k hk1 hk2
  · rcases List.mem_or_eq_of_mem_set hx with hx | rfl
    · exact h.bound x hx
    · exact h.bound e (List.mem_of_getElem? he)
  · rcases List.mem_or_eq_of_mem_set hx with hx | rfl
    · exact h.kept x hx
    · exact hk
  · rcases hk with hk | hk | hk | ⟨m2, hm2, hk⟩
    · exact .inl (.inl hk)
    · exact .inl (.inr (.inl hk))
    · exact .inl (.inr (.inr (.inl hk)))
    · rcases List.mem_or_eq_of_mem_set hm2 with hm2 | rfl
      · exact .inl (.inr (.inr (.inr ⟨m2, hm2, hk⟩)))
      · exact (hg k hk).imp (hj1 k) id
/-- One fill goes. -/
theorem remove (h : DeskAt w D d) {i : Nat} {m : JMem} (hm : D.ms[i]? = some m) (hn : SMap w' D.nm (nameList (d.js.eraseIdx i))) (hj : SMap w' D.jm (jobList (d.js.eraseIdx i) (D.ms.eraseIdx i)))
    (ho : Only (fun k => JOwns m k ∨ k = D.nm ∨ k = D.jm) w w') :
    DeskAt w' { D with ms := D.ms.eraseIdx i } { d with js := d.js.eraseIdx i } ∧ DStep w w' D { D with ms := D.ms.eraseIdx i } := by
  have hmm := List.mem_of_getElem? hm
  have hi := (List.getElem?_eq_some_iff.1 hm).1
  have hil : i < d.js.length := by rw [← h.len]; exact hi
  have hj1 : ∀ k, JOwns m k → DOwns D k := fun k hk => .inr (.inr (.inr ⟨m, hmm, hk⟩))
  have hidx : ∀ (k : Nat) (a : JMem), (D.ms.eraseIdx i)[k]? = some a → ∃ k', k' ≠ i ∧ D.ms[k']? = some a ∧ (∀ x : Nat × Job, (d.js.eraseIdx i)[k]? = some x → d.js[k']? = some x) ∧ k' = if k < i then k else k + 1 := fun k a ha => by
    rw [List.getElem?_eraseIdx] at ha
    by_cases hk : k < i
    · rw [if_pos hk] at ha
      exact ⟨k, by omega, ha, fun x hx => by rwa [List.getElem?_eraseIdx, if_pos hk] at hx, by rw [if_pos hk]⟩
    · rw [if_neg hk] at ha
      exact ⟨k + 1, by omega, ha, fun x hx => by rwa [List.getElem?_eraseIdx, if_neg hk] at hx, by rw [if_neg hk]⟩
  refine ⟨⟨by simp only [List.length_eraseIdx_of_lt hi, List.length_eraseIdx_of_lt hil, h.len], by simp only [List.length_eraseIdx_of_lt hil]; have := h.small; omega, ho.keep h.desk (fun q => ?_), hn, hj, h.ne, fun k2 m2 e2 hm2 he2 => ?_, fun i1 i2 m1 m2 hne hm1 hm2 k hk1 hk2 => ?_, fun x hx => h.bound x (List.mem_of_mem_eraseIdx hx), fun x hx => h.kept x (List.mem_of_mem_eraseIdx hx)⟩, rfl, ho.mono (fun k _ hk => ?_), fun k hk => .inl ?_⟩
  · rcases q with q | q | q
    · exact (h.job_ne hmm q).1 rfl
    · exact h.p_ne.1 q
    · exact h.p_ne.2 q
  · obtain ⟨k', hk', ha, hx, _⟩ := hidx k2 m2 hm2
    refine (h.at_ k' m2 e2 ha (hx e2 he2)).keep ho (fun k hk q => ?_)
    rcases q with q | q | q
    · exact h.apart k' i m2 m hk' ha hm k hk q
    · exact (h.job_ne (List.mem_of_getElem? ha) hk).2.1 q
    · exact (h.job_ne (List.mem_of_getElem? ha) hk).2.2 q
  · obtain ⟨k1, _, ha1, _, e1⟩ := hidx i1 m1 hm1
    obtain ⟨k2, _, ha2, _, e2⟩ := hidx i2 m2 hm2
    exact h.apart k1 k2 m1 m2 (by subst e1 e2; split <;> split <;> omega) ha1 ha2 k hk1 hk2
  · rcases hk with hk | hk | hk
    · exact hj1 k hk
    · exact .inr (.inl hk)
    · exact .inr (.inr (.inl hk))
  · rcases hk with hk | hk | hk | ⟨m2, hm2, hk⟩
    · exact .inl hk
    · exact .inr (.inl hk)
    · exact .inr (.inr (.inl hk))
    · exact .inr (.inr (.inr ⟨m2, List.mem_of_mem_eraseIdx hm2, hk⟩))
end DeskAt
theorem DStep.refl {w w' : World} (D : DMem) (h : Quiet w w') : DStep w w' D D := ⟨rfl, h.mono (fun _ _ x => x.elim), fun _ hk => .inl hk⟩
end Go.Proofs.Ytffockkdiimneaa
