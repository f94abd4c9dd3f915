/-
  What the program's New makes of a list of limits, for every list. No conditions.
-/
import Derived.Test.YtnkiibdmpldkmaaGets
import Derived.Test.YtnkiibdmpldkmaaArgs
namespace Go.Proofs.Ytnkiibdmpldkmaa
open Go.RowKit Go.MapKept

/-- The code that New answers: wrong number of limits, or one below 0: 2; one too great: 3. -/
def newCode (l : List Int) : Int :=
  if l.length < 1 ∨ 16 < l.length then 2 else if l.any (fun x => decide (x < 0)) then 2 else if l.any (fun x => decide (1099511627776 < x)) then 3 else 0
def badOf (l : List Int) : Int := if l.any (fun x => decide (1099511627776 < x)) then 3 else 0
def fresh (l : List Int) : List Acct := l.map fun x => ⟨x, 0, 0⟩

structure PreBook (w : World) (p m : Nat) (bs : List Nat) (S : List Acct) : Prop where
  ptr : w.heap[p]? = some (.cells #[.map (some m)] 25 (0, 0))
  map : KMap w m (entriesFrom 0 bs)
  len : bs.length = S.length
  accs : ∀ (i : Nat) (a : Nat) (s : Acct), bs[i]? = some a → S[i]? = some s → w.heap[a]? = some (.cells (cellsOf s) 51 (0, 0))
  nodup : bs.Nodup
theorem PreBook.fine {w : World} {p m : Nat} {bs : List Nat} {S : List Acct} (h : PreBook w p m bs S) (hf : ∀ s ∈ S, Fine s) : BookAt w p m bs S := ⟨h.ptr, h.map, h.len, h.accs, h.nodup, hf⟩
theorem PreBook.mem_lt {w : World} {p m : Nat} {bs : List Nat} {S : List Acct} (h : PreBook w p m bs S) {a : Nat} (ha : a ∈ bs) : a < w.heap.size := by
  obtain ⟨i, hi⟩ := List.mem_iff_getElem?.1 ha
  have hl : i < S.length := by rw [← h.len]; exact (List.getElem?_eq_some_iff.1 hi).1
  exact lt_of_heap (h.accs i a _ hi (List.getElem?_eq_getElem hl))
/-- One more account. -/
theorem PreBook.push {w : World} {p m : Nat} {bs : List Nat} {S : List Acct} (h : PreBook w p m bs S) (x : Int) {o : Obj} {w2 : World} (hw2 : w2 = { w.alloc (.cells (cellsOf ⟨x, 0, 0⟩) 51) with heap := (w.alloc (.cells (cellsOf ⟨x, 0, 0⟩) 51)).heap.setIfInBounds m o })
    (hm : KMap w2 m (kput (.int .i64 (bs.length : Int)) (Ytnkiibdmpldkmaa.ptr w.heap.size) (entriesFrom 0 bs))) : PreBook w2 p m (bs ++ [w.heap.size]) (S ++ [⟨x, 0, 0⟩]) := by
  have ho : Only (· = m) w w2 := by rw [hw2]; exact Only.putObj (S := (· = m)) ((Only.refl _ _).alloc _) (fun _ => rfl) o
  have hne : ∀ {g : Nat} {t : TypeId} {cs : Array Value} {f : Nat × Nat}, w.heap[g]? = some (.cells cs t f) → g ≠ m := fun hg => h.map.ne_cells hg
  refine ⟨ho.keep h.ptr (hne h.ptr), ?_, by simp [h.len], ?_, ?_⟩
  · rw [kput_none (fun y hy => entries_no 0 bs y hy bs.length (by omega))] at hm
    rw [entries_snoc]
    simpa using hm
  · intro i a s ha hs
    rw [List.getElem?_append] at ha hs
    rw [← h.len] at hs
    split at ha
    · rename_i hi
      rw [if_pos hi] at hs
      exact ho.keep (h.accs i a s ha hs) (hne (h.accs i a s ha hs))
    · rename_i hi
      rw [if_neg hi] at hs
      have e : i - bs.length = 0 := by have := (List.getElem?_eq_some_iff.1 ha).1; simp at this; omega
      rw [e] at ha hs
      simp at ha hs
      subst ha hs
      have hml := h.map.lt
      have h1 : (w.alloc (.cells (cellsOf ⟨x, 0, 0⟩) 51)).heap[w.heap.size]? = some (.cells (cellsOf ⟨x, 0, 0⟩) 51 (0, 0)) := blk_new w _
      have ho2 : Only (· = m) (w.alloc (.cells (cellsOf ⟨x, 0, 0⟩) 51)) w2 := by rw [hw2]; exact Only.putObj (S := (· = m)) (Only.refl _ _) (fun _ => rfl) o
      exact ho2.keep h1 (by omega)
  · refine List.nodup_append.2 ⟨h.nodup, by simp, ?_⟩
    intro a ha b hb
    simp at hb
    subst hb
    have := h.mem_lt ha
    omega

theorem take_snoc_int (l : List Int) (k : Nat) (x : Int) (h : l[k]? = some x) : l.take (k + 1) = l.take k ++ [x] := by
  rw [List.take_add_one, h]; rfl
theorem any_take {f : Int → Bool} {l : List Int} {k : Nat} (h : (l.take k).any f = true) : l.any f = true := by
  rw [List.any_eq_true] at h ⊢
  obtain ⟨x, hx, hf⟩ := h
  exact ⟨x, List.mem_of_mem_take hx, hf⟩

/-- What New leaves: a book of the limits, or none and a code. -/
def NewPost (l : List Int) (w : World) (e : Ending) (w' : World) : Prop :=
  Quiet w w' ∧ if newCode l = 0 then ∃ p m bs, e = .returned (.tuple #[.pointer (some ⟨p, 0, none⟩), .int .i64 0]) ∧ BookAt w' p m bs (fresh l) ∧ w.heap.size ≤ p ∧ w.heap.size ≤ m ∧ ∀ a ∈ bs, w.heap.size ≤ a
    else e = .returned (.tuple #[.pointer none, .int .i64 (newCode l)])

theorem fresh_fine {l : List Int} (h1 : l.any (fun x => decide (x < 0)) = false) (h2 : l.any (fun x => decide (1099511627776 < x)) = false) : ∀ s ∈ fresh l, Fine s := by
  intro s hs
  obtain ⟨x, hx, rfl⟩ := List.mem_map.1 hs
  rw [List.any_eq_false] at h1 h2
  have := h1 x hx
  have := h2 x hx
  simp at *
  unfold Fine
  simp only []
  omega
theorem post_arg {l : List Int} {w w' : World} (h : newCode l = 2) (ho : Quiet w w') : NewPost l w (.returned (.tuple #[.pointer none, .int .i64 2])) w' := by
  refine ⟨ho, ?_⟩
  rw [h, if_neg (by decide)]
theorem post_big {l : List Int} {w w' : World} (h : newCode l = 3) (ho : Quiet w w') : NewPost l w (.returned (.tuple #[.pointer none, .int .i64 3])) w' := by
  refine ⟨ho, ?_⟩
  rw [h, if_neg (by decide)]

def NewRel (l : List Int) (w : World) (bad i : Value) (wr : World) : Prop :=
  ∃ (k : Nat) (bs : List Nat), k ≤ l.length ∧ i = .int .i64 k ∧ bad = .int .i64 (badOf (l.take k)) ∧ (l.take k).any (fun x => decide (x < 0)) = false ∧ PreBook wr (w.heap.size + 1) w.heap.size bs (fresh (l.take k)) ∧
    (∀ a ∈ bs, w.heap.size ≤ a) ∧ Quiet w wr

theorem newRel_start (l : List Int) (w : World) : NewRel l w (.int .i64 0) (.int .i64 0) ((w.alloc (.map #[] 0)).alloc (.cells #[.map (some w.heap.size)] 25)) := by
  refine ⟨0, [], Nat.zero_le _, rfl, rfl, rfl, ⟨?_, (KMap.new w).alloc _, rfl, by simp, by simp⟩, by simp, ((Only.refl _ _).alloc _).alloc _⟩
  have := blk_new (w.alloc (.map #[] 0)) (.cells #[.map (some w.heap.size)] 25)
  rwa [World.size_alloc] at this
theorem newRel_step {l : List Int} {w wr : World} {k : Nat} {bs : List Nat} {x : Int} {o : Obj} (hk : l[k]? = some x) (hx : 0 ≤ x) (h3 : (l.take k).any (fun x => decide (x < 0)) = false)
    (h4 : PreBook wr (w.heap.size + 1) w.heap.size bs (fresh (l.take k))) (h5 : ∀ a ∈ bs, w.heap.size ≤ a) (h6 : Quiet w wr) (v : Value)
    (hv : v = .int .i64 (if 1099511627776 < x then 3 else badOf (l.take k)))
    (hm : KMap { wr.alloc (.cells (cellsOf ⟨x, 0, 0⟩) 51) with heap := (wr.alloc (.cells (cellsOf ⟨x, 0, 0⟩) 51)).heap.setIfInBounds w.heap.size o } w.heap.size (kput (.int .i64 (bs.length : Int)) (ptr wr.heap.size) (entriesFrom 0 bs))) :
    NewRel l w v (.int .i64 ((k : Int) + 1)) { wr.alloc (.cells (cellsOf ⟨x, 0, 0⟩) 51) with heap := (wr.alloc (.cells (cellsOf ⟨x, 0, 0⟩) 51)).heap.setIfInBounds w.heap.size o } := by
  have hkl : k < l.length := (List.getElem?_eq_some_iff.1 hk).1
  have ht := take_snoc_int l k x hk
  refine ⟨k + 1, bs ++ [wr.heap.size], by omega, by simp, ?_, ?_, ?_, ?_, ?_⟩
  · rw [hv, ht]
    unfold badOf
    rw [List.any_append]
    by_cases hc : 1099511627776 < x <;> simp [hc]
  · rw [ht, List.any_append, h3]
    simp
    omega
  · have := h4.push x rfl hm
    rw [ht]
    simpa [fresh] using this
  · intro a ha
    rcases List.mem_append.1 ha with ha | ha
    · exact h5 a ha
    · simp at ha
      subst ha
      exact h6.size
  · exact ((h6.alloc _).putObj (fun h => absurd h (Nat.lt_irrefl _)) _)
theorem newRel_end {l : List Int} {w wr : World} {bs : List Nat} (hl : ¬ (l.length < 1 ∨ 16 < l.length)) (h3 : l.any (fun x => decide (x < 0)) = false) (hb : badOf l = 0)
    (h4 : PreBook wr (w.heap.size + 1) w.heap.size bs (fresh l)) (h5 : ∀ a ∈ bs, w.heap.size ≤ a) (h6 : Quiet w wr) : NewPost l w (.returned (.tuple #[.pointer (some ⟨w.heap.size + 1, 0, none⟩), .int .i64 0])) wr := by
  have h7 : l.any (fun x => decide (1099511627776 < x)) = false := by
    unfold badOf at hb
    cases hc : l.any (fun x => decide (1099511627776 < x)) with
    | false => rfl
    | true => rw [hc] at hb; cases hb
  have hn : newCode l = 0 := by
    unfold newCode
    rw [if_neg hl, h3, h7]
    rfl
  refine ⟨h6, ?_⟩
  rw [if_pos hn]
  exact ⟨_, _, bs, rfl, h4.fine (fresh_fine h3 h7), by omega, Nat.le_refl _, h5⟩

set_option maxHeartbeats 1000000 in
theorem new_any (A : Option Addr) (n c : Nat) (l : List Int) (w : World) (harg : IntsArg .i64 w A n l) :
    Calls Try.prog 15 #[.slice A n c] w (NewPost l w) := by
  obtain ⟨hln, hwf, hcell⟩ := harg
  by_cases h0 : n = 0
  · subst h0
    have hc : newCode l = 2 := by unfold newCode; rw [if_pos (by omega)]
    go_enter Try.func15, Try.ntmps15
    go_wp2
    go_ret2
    exact post_arg hc (Only.refl _ _)
  · have hz : (((n : Nat) : Int) == 0) = false := by simp; omega
    obtain ⟨b, off, rfl, hb, hcell⟩ := hcell (by omega)
    by_cases h16 : 16 < n
    · have hc : newCode l = 2 := by unfold newCode; rw [if_pos (by omega)]
      go_enter Try.func15, Try.ntmps15
      go_wp2
      go_ret2
      exact post_arg hc (Only.refl _ _)
    · have hmm := @run_makeMap Try.prog
      have HC := Lib.hid hcell; clear hcell
      have HL := Lib.hid hln; clear hln
      go_enter Try.func15, Try.ntmps15
      go_wp2
      go_loopw [5, 21] (fun bad i wr => NewRel l w bad i wr) (fun _ i _ => n - (intOf i).toNat)
      case atStart => exact newRel_start l w
      case round =>
        obtain ⟨k, bs, hk, rfl, rfl, h3, h4, h5, h6⟩ := hrel
        have hm := h4.map
        have hbsl : bs.length = k := by have := h4.len; simp [fresh] at this; omega
        have hp : wr.cell? ⟨w.heap.size + 1, 0, none⟩ = some (.map (some w.heap.size)) := blk_cell h4.ptr 0
        have hps := lt_of_heap h4.ptr
        by_cases hlt : k < n
        · obtain ⟨x, hx⟩ : ∃ x, l[k]? = some x := ⟨_, List.getElem?_eq_getElem (by have := HL.out; omega)⟩
          have hcx : wr.cell? ⟨b, off + k, none⟩ = some (.int .i64 x) := (h6.cell (p := ⟨b, off + k, none⟩) hb (fun x => x)).trans (HC.out k x hx)
          by_cases hneg : x < 0
          · have hc : newCode l = 2 := by
              have ha : l.any (fun x => decide (x < 0)) = true := List.any_eq_true.2 ⟨x, List.mem_of_getElem? hx, by simpa using hneg⟩
              unfold newCode
              rw [ha]
              split <;> rfl
            have HX := Lib.hid hx; clear hx
            have H3 := Lib.hid h3; clear h3
            have HCC := Lib.hid hc; clear hc
            have HB := Lib.hid hbsl; clear hbsl
            go_wp2
            go_ret2
            exact post_arg HCC.out h6
          · obtain ⟨o, hrun, hm2⟩ := run_mapUpdate_k (P := Try.prog) (t := 23) (kt := 3) (et := 49) (d := .int .i64) (k := .int .i64 (k : Int)) (v := .pointer (some ⟨wr.heap.size, 0, none⟩)) Try.underlying23 Try.underlying3 rfl (hm.alloc (.cells #[.int .i64 x, .int .i64 0, .int .i64 0] 51)) (entries_key 0 bs)
            have HX := Lib.hid hx; clear hx
            have H3 := Lib.hid h3; clear h3
            have HB := Lib.hid hbsl; clear hbsl
            have HM := Lib.hid hm2; clear hm2
            by_cases hbig : 1099511627776 < x
            all_goals
              go_wp2
              go_roundw
              case rel => exact newRel_step HX.out (by omega) H3.out h4 h5 h6 _ (by first | rw [if_pos hbig] | rw [if_neg hbig]) (by rw [HB.out]; exact HM.out)
              case measure => simp [intOf]; omega
        · have hkn : k = n := by have := HL.out; omega
          have hlen : l.length = n := HL.out
          have htk : l.take k = l := List.take_of_length_le (by omega)
          rw [htk] at h3 h4
          have hbad : badOf (l.take k) = badOf l := by rw [htk]
          have HK := Lib.hid hkn; clear hkn
          have HT := Lib.hid htk; clear htk
          have HB := Lib.hid hbsl; clear hbsl
          have H3 := Lib.hid h3; clear h3
          have HLL := Lib.hid hlen; clear hlen
          rw [hbad]
          clear hbad
          by_cases hbz : badOf l = 0
          · rw [hbz]
            have HZ := Lib.hid hbz; clear hbz
            go_wp2
            go_ret2
            exact newRel_end (by have := HLL.out; omega) H3.out HZ.out h4 h5 h6
          · have hb3 : badOf l = 3 := by
              unfold badOf at hbz ⊢
              split
              · rfl
              · exfalso; apply hbz; rw [if_neg ‹_›]
            have hnc : newCode l = 3 := by
              unfold newCode
              rw [if_neg (by have := HLL.out; omega), H3.out]
              unfold badOf at hb3
              simpa using hb3
            rw [hb3]
            have HN := Lib.hid hnc; clear hnc hb3 hbz
            go_wp2
            go_ret2
            exact post_big HN.out h6
end Go.Proofs.Ytnkiibdmpldkmaa
