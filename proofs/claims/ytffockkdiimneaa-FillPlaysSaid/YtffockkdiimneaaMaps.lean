/-
  OWN WORDS, OVER ANY PROGRAM: a map whose entries are known as a list of pairs, with its stamps in order, under delete and under a store into an entry laid anew. No conditions.
-/
import Derived.Test.YtffockkdiimneaaLib
import Derived.MapKept
import Derived.RegionTactic
namespace Go.Proofs.Ytffockkdiimneaa
open Go.RowKit Go.MapKept

/-- The map m has these entries, in this order. -/
def SMap (w : World) (m : Nat) (l : List (Value × Value)) : Prop := ∃ es clk, w.heap[m]? = some (.map es clk) ∧ es.toList.map (fun e => (e.key, e.val)) = l ∧ MapKept.Stamped es clk
/-- .. and one entry more behind them, that was laid for key k and still has its first value. -/
def PMap (w : World) (m : Nat) (l : List (Value × Value)) (k : Value) (clk : Nat) : Prop := ∃ es z, w.heap[m]? = some (.map (es.push { key := k, val := z, born := clk }) (clk + 1)) ∧ es.toList.map (fun e => (e.key, e.val)) = l ∧ MapKept.Stamped es clk ∧ ∀ x ∈ es.toList, x.key ≠ k
section
variable {w w' : World} {m : Nat} {l : List (Value × Value)} {k : Value} {clk : Nat}
theorem SMap.kmap (h : SMap w m l) : KMap w m l := let ⟨es, c, h1, h2, _⟩ := h; ⟨es, c, h1, h2⟩
theorem SMap.lt (h : SMap w m l) : m < w.heap.size := h.kmap.lt
theorem SMap.of_block (h : SMap w m l) (hb : w'.heap[m]? = w.heap[m]?) : SMap w' m l := let ⟨es, c, h1, h2⟩ := h; ⟨es, c, hb.trans h1, h2⟩
theorem SMap.only {S : Nat → Prop} (h : SMap w m l) (ho : Only S w w') (hs : ¬ S m) : SMap w' m l := h.of_block (ho.block m h.lt hs)
theorem SMap.at_new {g : Nat} (h : w.heap[g]? = some (.map #[] 0)) : SMap w g [] := ⟨#[], 0, h, rfl, fun x hx => by simp at hx, by simp, by simp⟩
theorem PMap.lt (h : PMap w m l k clk) : m < w.heap.size := let ⟨_, _, h, _⟩ := h; lt_of_heap h
theorem PMap.of_block (h : PMap w m l k clk) (hb : w'.heap[m]? = w.heap[m]?) : PMap w' m l k clk := let ⟨es, c, h1, h2⟩ := h; ⟨es, c, hb.trans h1, h2⟩
theorem PMap.only {S : Nat → Prop} (h : PMap w m l k clk) (ho : Only S w w') (hs : ¬ S m) : PMap w' m l k clk := h.of_block (ho.block m h.lt hs)
theorem SMap.keys (h : SMap w m l) : (l.map (·.1)).Nodup := by
  obtain ⟨es, c, _, rfl, _, _, h3⟩ := h
  simpa [Function.comp_def] using h3
end
section
variable {P : Program} {w : World} {m : Nat} {l : List (Value × Value)} {t kt et : TypeId} {d : TypeDesc} {k : Value}
theorem smap_only (w : World) (m : Nat) (o : Obj) : Only (· = m) w { w with heap := w.heap.setIfInBounds m o } := Only.putObj (S := (· = m)) (Only.refl _ w) (fun _ => rfl) o

/-- An entry laid anew. -/
theorem run_mapEntry_s (ht : P.underlying t = some (.map kt et)) (hd : P.underlying kt = some d) (hk : IsKey d k) {z : Value} (hz : ∀ w : World, (zeroValue et).run P w = .ok z w)
    (h : SMap w m l) (hl : ∀ x ∈ l, IsKey d x.1) (hn : ∀ x ∈ l, x.1 ≠ k) :
    ∃ clk w', (Instr.mapEntry t (.map (some m)) k).run P w = .ok (.tuple #[z, .int .i64 (clk : Nat)]) w' ∧ PMap w' m l k clk ∧ Only (· = m) w w' := by
  obtain ⟨es, clk, hb, rfl, hs⟩ := h
  have hes : ∀ x ∈ es.toList, IsKey d x.key := fun x hx => hl (x.key, x.val) (List.mem_map.2 ⟨x, hx, rfl⟩)
  have hne : ∀ x ∈ es.toList, x.key ≠ k := fun x hx => hn (x.key, x.val) (List.mem_map.2 ⟨x, hx, rfl⟩)
  rcases findNow_get hk es.toList 0 hes with ⟨h1, _, h3⟩ | ⟨j, e, h1, h2, h3, _, h5⟩
  · refine ⟨clk, { w with heap := w.heap.setIfInBounds m (.map (es.push { key := k, val := z, born := clk }) (clk + 1)) }, ?_, ⟨es, z, (heap_set hb).1, rfl, hs, hne⟩, smap_only w m _⟩
    simp [Instr.mapEntry, run_underlying ht, MapKept.run_getObj_map hb, run_checkKey hd hk, run_findKey hd h1, Result.andThen, run_setObj_map _ hb, hz, goInt]
  · exact (hne e (List.mem_of_getElem? h2) h3).elim
/-- The store into it. -/
theorem run_entryStore_s {clk : Nat} (h : PMap w m l k clk) (v : Value) :
    ∃ w', (Instr.entryStore t (.map (some m)) (.int .i64 (clk : Nat)) v).run P w = .ok () w' ∧ SMap w' m (l ++ [(k, v)]) ∧ Only (· = m) w w' := by
  obtain ⟨es, z, hb, rfl, hs, hne⟩ := h
  have hfind : (es.push { key := k, val := z, born := clk }).findIdx? (fun e => (e.born : Int) == (clk : Int)) = some es.size := by
    rw [Array.findIdx?_eq_some_iff_getElem]
    refine ⟨by simp, by simp, fun j hj => ?_⟩
    simp only [Array.getElem_push, hj, dite_true, Bool.not_eq_true, beq_eq_false_iff_ne]
    have := hs.1 es[j] (by simp)
    omega
  have hmod : (es.push { key := k, val := z, born := clk }).modify es.size (fun e => { e with val := v }) = es.push { key := k, val := v, born := clk } := by
    apply Array.ext_getElem?
    intro i
    rw [Array.getElem?_modify, Array.getElem?_push, Array.getElem?_push]
    by_cases hi : i = es.size
    · subst hi; simp
    · simp [hi, Ne.symm hi]
  refine ⟨{ w with heap := w.heap.setIfInBounds m (.map (es.push { key := k, val := v, born := clk }) (clk + 1)) }, ?_, ⟨_, _, (heap_set hb).1, by simp, MapKept.stamped_push hs hne⟩, smap_only w m _⟩
  simp [Instr.entryStore, MapKept.run_getObj_map hb, Result.andThen, asInt, asIntOf, hfind, hmod, run_setObj_map _ hb]
theorem run_delete_s (ht : P.underlying t = some (.map kt et)) (hd : P.underlying kt = some d) (hk : IsKey d k) (h : SMap w m l) (hl : ∀ x ∈ l, IsKey d x.1) :
    ∃ w', (∀ ty, (Builtin.delete_ #[t, kt] ty #[.map (some m), k]).run P w = .ok (.tuple #[]) w') ∧ SMap w' m (kdel k l) ∧ Only (· = m) w w' := by
  obtain ⟨es, clk, hb, rfl, hs⟩ := h
  have hes : ∀ x ∈ es.toList, IsKey d x.key := fun x hx => hl (x.key, x.val) (List.mem_map.2 ⟨x, hx, rfl⟩)
  rcases findNow_get hk es.toList 0 hes with ⟨h1, _, h3⟩ | ⟨j, e, h1, h2, h3, _, h5⟩
  · refine ⟨{ w with heap := w.heap.setIfInBounds m (.map es clk) }, fun ty => ?_, ⟨es, clk, (heap_set hb).1, ?_, hs⟩, smap_only w m _⟩
    · simp [Builtin.delete_, run_underlying ht, MapKept.run_getObj_map hb, run_checkKey hd hk, run_findKey hd h1, Result.andThen, run_setObj_map _ hb]
    · rw [kdel_none (by intro x hx; obtain ⟨y, hy, rfl⟩ := List.mem_map.1 hx; exact h3 y hy)]
  · have hj : es[j]? = some e := by simpa using h2
    have hjl : j < es.size := (Array.getElem?_eq_some_iff.1 hj).1
    refine ⟨{ w with heap := w.heap.setIfInBounds m (.map (es.eraseIdxIfInBounds j) clk) }, fun ty => ?_, ⟨_, clk, (heap_set hb).1, ?_, MapKept.stamped_erase hs j⟩, smap_only w m _⟩
    · simp [Builtin.delete_, run_underlying ht, MapKept.run_getObj_map hb, run_checkKey hd hk, run_findKey hd h1, Result.andThen, run_setObj_map _ hb]
    · rw [kdel_at (j := j) (u := e.val) (by simp [hj, h3]) (by
        intro j' hj' x hx
        simp only [List.getElem?_map, Option.map_eq_some_iff] at hx
        obtain ⟨y, hy, rfl⟩ := hx
        exact h5 j' hj' y hy)]
      rw [eraseIdxIf_toList _ _ hjl, map_eraseIdx']
theorem wp_mapEntry_s {o : Oper} {a : Act} {K : Act → World → Prop} {Q : Exit → Act → World → Prop} (r x : Operand) (ho : o.op = .mapEntry t r x)
    (ht : P.underlying t = some (.map kt et)) (hd : P.underlying kt = some d) (hk : IsKey d k) {z : Value} (hz : ∀ w : World, (zeroValue et).run P w = .ok z w)
    (hr : a.eval r = .map (some m)) (hx : a.eval x = k) (h : SMap w m l) (hl : ∀ x ∈ l, IsKey d x.1) (hn : ∀ x ∈ l, x.1 ≠ k)
    (hK : ∀ clk w', PMap w' m l k clk → Only (· = m) w w' → K (a.put o.dst (.tuple #[z, .int .i64 (clk : Nat)])) w') : o.wp P a w K Q := by
  obtain ⟨clk, w', hrun, h1, h2⟩ := run_mapEntry_s (P := P) ht hd hk hz h hl hn
  unfold Oper.wp execOp
  simp only [ho, Sem.run_bind, Sem.run_pure, Result.andThen_ok, hr, hx, hrun]
  exact hK clk w' h1 h2
theorem wp_entryStore_s {o : Oper} {a : Act} {K : Act → World → Prop} {Q : Exit → Act → World → Prop} (r x y : Operand) (ho : o.op = .entryStore t r x y) {clk : Nat} {v : Value}
    (hr : a.eval r = .map (some m)) (hx : a.eval x = .int .i64 (clk : Nat)) (hy : a.eval y = v) (h : PMap w m l k clk)
    (hK : ∀ w', SMap w' m (l ++ [(k, v)]) → Only (· = m) w w' → K (a.put o.dst undef) w') : o.wp P a w K Q := by
  obtain ⟨w', hrun, h1, h2⟩ := run_entryStore_s (P := P) (t := t) h v
  unfold Oper.wp execOp
  simp only [ho, Sem.run_bind, Sem.run_pure, Result.andThen_ok, hr, hx, hy, hrun]
  exact hK w' h1 h2
theorem step_mapEntry_s {ops : Array Oper} {o : Oper} {a : Act} {K : Act → World → Prop} {Q : Exit → Act → World → Prop} {E : Prop} (hgd : o.guard = none) (r x : Operand) (ho : o.op = .mapEntry t r x)
    (ht : P.underlying t = some (.map kt et)) (hd : P.underlying kt = some d) (hk : IsKey d k) {z : Value} (hz : ∀ w : World, (zeroValue et).run P w = .ok z w)
    (hr : a.eval r = .map (some m)) (hx : a.eval x = k) (h : SMap w m l) (hl : ∀ x ∈ l, IsKey d x.1) (hn : ∀ x ∈ l, x.1 ≠ k)
    (hK : ∀ clk w', PMap w' m l k clk → Only (· = m) w w' → K (a.put o.dst (.tuple #[z, .int .i64 (clk : Nat)])) w') :
    if Region.wanted o (yielded ops a.tmps) = true then Oper.wp P o a w K Q else E := by
  have hw : Region.wanted o (yielded ops a.tmps) = true := by simp [Region.wanted, hgd]
  rw [if_pos hw]
  exact wp_mapEntry_s r x ho ht hd hk hz hr hx h hl hn hK
theorem step_entryStore_s {ops : Array Oper} {o : Oper} {a : Act} {K : Act → World → Prop} {Q : Exit → Act → World → Prop} {E : Prop} (hgd : o.guard = none) (r x y : Operand) (ho : o.op = .entryStore t r x y) {clk : Nat} {v : Value}
    (hr : a.eval r = .map (some m)) (hx : a.eval x = .int .i64 (clk : Nat)) (hy : a.eval y = v) (h : PMap w m l k clk)
    (hK : ∀ w', SMap w' m (l ++ [(k, v)]) → Only (· = m) w w' → K (a.put o.dst undef) w') :
    if Region.wanted o (yielded ops a.tmps) = true then Oper.wp P o a w K Q else E := by
  have hw : Region.wanted o (yielded ops a.tmps) = true := by simp [Region.wanted, hgd]
  rw [if_pos hw]
  exact wp_entryStore_s r x y ho hr hx hy h hK
end
end Go.Proofs.Ytffockkdiimneaa
