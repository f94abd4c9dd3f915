/-
  What the program's New and Open do. No conditions.
-/
import Derived.Test.YtdigeppbflkknaaNets
import Derived.Deep.QuietTactic
import Derived.BigQuiet
import Derived.Lib.Hide
import Derived.Deep.RegionLaw
namespace Go.Proofs.Ytdigeppbflkknaa
open Go.RowKit

theorem blk_newAt (w : World) (o : Obj) {g : Nat} (h : g = w.heap.size) : (w.alloc o).heap[g]? = some o := h ▸ blk_new w o
theorem Try.info60 : (Try.prog.info? 60).map (fun i => (i.zero, i.size, i.bytes)) = some (some (.pointer none), 1, 8) := by kernel_rfl

set_option maxHeartbeats 1000000 in
theorem new_at (w : World) : Calls Try.prog 14 #[] w fun e w' => ∃ N : NMem, e = .returned (.pointer (some ⟨N.p, 0, none⟩)) ∧ NetAt w' N [] ∧ Quiet w w' ∧ (∀ k, NOwns N k → w.heap.size ≤ k) := by
  go_enter Try.func14, Try.ntmps14
  go_wp2
  go_ret
  refine ⟨⟨w.heap.size, none, 0, []⟩, rfl, ⟨rfl, by simp, blk_new w _, Sl.nil _ _, fun i m x hm => by simp at hm, fun i j m m' _ hm => by simp at hm⟩, by repeat (first | exact Only.refl _ _ | refine Only.drew ?_ | refine Only.alloc ?_ _), fun k hk => ?_⟩
  rcases hk with rfl | ⟨a, ha, _⟩ | ⟨m, hm, _⟩
  · exact Nat.le_refl _
  · cases ha
  · cases hm

def freshW (b : Nat) : WMem := ⟨b, none, 0, none, 0⟩
theorem owns_fresh {b k : Nat} (h : Owns (freshW b) k) : k = b := by
  rcases h with h | ⟨a, h, _⟩ | ⟨a, h, _⟩
  · exact h
  · cases h
  · cases h
/-- Behind the laying of one wire more. -/
theorem open_end {N : NMem} {xs : List Wire} {w W w' : World} {A' : Option Addr} {c' : Nat} (h : NetAt w N xs) (hsmall : xs.length < 256) (hq : Quiet w W) (hwire : W.heap[w.heap.size]? = some (.cells (wireCells (freshW w.heap.size) newWire) 65 (0, 0)))
    (hon : Only (RowOf N.A) W w') (hsl : Sl w' 60 A' (xs.length + 1) c' ((N.ws.map fun m => ptr m.blk) ++ [ptr w.heap.size])) (hrow : ∀ k, RowOf A' k → RowOf N.A k ∨ W.heap.size ≤ k) :
    NetAt (w'.setCell ⟨N.p, 1, none⟩ (.slice A' (xs.length + 1) c')) { N with A := A', c := c', ws := N.ws ++ [freshW w.heap.size] } (xs ++ [newWire]) ∧ NStep w (w'.setCell ⟨N.p, 1, none⟩ (.slice A' (xs.length + 1) c')) N { N with A := A', c := c', ws := N.ws ++ [freshW w.heap.size] } := by
  have hsz := hq.size
  have hsz2 := hon.size
  have hpl := lt_of_heap h.net
  have hwl := lt_of_heap hwire
  have hnp : ¬ RowOf N.A N.p := fun hk => by
    obtain ⟨cur, hc⟩ := h.row.type hk
    exact blk_ne hc h.net (by decide) rfl
  have hP' : w'.heap[N.p]? = _ := hon.keep (hq.keep h.net (fun x => x)) hnp
  have hrl : ∀ k, RowOf N.A k → k < w.heap.size := fun k hk => h.row.lt hk
  have hrp : ∀ k, RowOf A' k → k ≠ N.p := fun k hk e => by
    subst e
    rcases hrow _ hk with h1 | h1
    · exact hnp h1
    · omega
  have hO : Only (fun k => k = N.p ∨ RowOf N.A k) w (w'.setCell ⟨N.p, 1, none⟩ (.slice A' (xs.length + 1) c')) :=
    Only.setCell (S := fun k => k = N.p ∨ RowOf N.A k) ((hq.mono (fun _ _ x => x.elim)).trans (hon.mono (fun _ _ x => .inr x))) (fun _ => .inl rfl) _
  have hset : Only (· = N.p) w' (w'.setCell ⟨N.p, 1, none⟩ (.slice A' (xs.length + 1) c')) := Only.setCell (S := (· = N.p)) (Only.refl _ _) (fun _ => rfl) _
  have hold : ∀ (i : Nat) (m : WMem), N.ws[i]? = some m → ∀ k, Owns m k → ¬ (k = N.p ∨ RowOf N.A k) := fun i m hm k hk hk' => by
    obtain ⟨m0, x, h1, h2, h3⟩ := h.there (i := i) (by rw [← h.len]; exact (List.getElem?_eq_some_iff.1 hm).1)
    rw [hm] at h1
    obtain rfl := Option.some.inj h1
    obtain ⟨cur, e, hc, he⟩ := h3.kind hk
    rcases hk' with rfl | hk'
    · have := h.net
      rw [hc] at this
      rcases he with rfl | rfl <;> simp at this
    · obtain ⟨cur', hc'⟩ := h.row.type hk'
      rw [hc] at hc'
      rcases he with rfl | rfl <;> simp at hc'
  have hblk : (w'.setCell ⟨N.p, 1, none⟩ (.slice A' (xs.length + 1) c')).heap[w.heap.size]? = some (.cells (wireCells (freshW w.heap.size) newWire) 65 (0, 0)) :=
    hset.keep (hon.keep hwire (fun hk => by have := hrl _ hk; omega)) (fun e => by omega)
  refine ⟨⟨by simp [h.len], by simp; omega, ?_, ?_, fun i m x hm hx => ?_, fun i j m m' hij hm hm' k hk hk' => ?_⟩, rfl, hO.mono (fun k _ hk => hk.elim .inl (fun hk => .inr (.inl hk))), fun k hk => ?_⟩
  · have := blk_set hP' 1 (.slice A' (xs.length + 1) c')
    simpa using this
  · have := hsl.only hset hrp
    simpa [freshW] using this
  · by_cases hi : i < xs.length
    · rw [List.getElem?_append_left (by rw [h.len]; exact hi)] at hm
      rw [List.getElem?_append_left hi] at hx
      exact (h.wires i m x hm hx).keep hO (hold i m hm)
    · rw [List.getElem?_append_right (by rw [h.len]; omega)] at hm
      rw [List.getElem?_append_right (by omega)] at hx
      have h1 := List.mem_of_getElem? hm
      have h2 := List.mem_of_getElem? hx
      rw [List.mem_singleton] at h1 h2
      subst h1 h2
      exact ⟨hblk, Sl.nil _ _, Sl.nil _ _, by simp [newWire], fun k hk => by obtain ⟨a, ha, _⟩ := hk; cases ha⟩
  · by_cases hi : i < N.ws.length
    · rw [List.getElem?_append_left hi] at hm
      by_cases hj : j < N.ws.length
      · rw [List.getElem?_append_left hj] at hm'
        exact h.apart i j m m' hij hm hm' k hk hk'
      · rw [List.getElem?_append_right (by omega)] at hm'
        have h1 := List.mem_of_getElem? hm'
        rw [List.mem_singleton] at h1
        subst h1
        have := owns_fresh hk'
        have := h.lt (.inr (.inr ⟨m, List.mem_of_getElem? hm, hk⟩))
        omega
    · rw [List.getElem?_append_right (by omega)] at hm
      have h1 := List.mem_of_getElem? hm
      rw [List.mem_singleton] at h1
      subst h1
      have hk0 := owns_fresh hk
      by_cases hj : j < N.ws.length
      · rw [List.getElem?_append_left hj] at hm'
        have := h.lt (.inr (.inr ⟨m', List.mem_of_getElem? hm', hk'⟩))
        omega
      · have hil := (List.getElem?_eq_some_iff.1 hm).1
        rw [List.getElem?_append_right (by omega)] at hm'
        have hjl := (List.getElem?_eq_some_iff.1 hm').1
        simp at hil hjl
        omega
  · rcases hk with hk | hk | ⟨m2, hm2, hk⟩
    · exact .inl (.inl hk)
    · exact (hrow k hk).imp (fun hk => .inr (.inl hk)) (fun hk => by omega)
    · rcases List.mem_append.1 hm2 with hm2 | hm2
      · exact .inl (.inr (.inr ⟨m2, hm2, hk⟩))
      · rw [List.mem_singleton] at hm2
        subst hm2
        have := owns_fresh hk
        exact .inr (by omega)
set_option maxHeartbeats 1000000 in
theorem open_full {N : NMem} {xs : List Wire} {w : World} (h : NetAt w N xs) (hf : ((xs.length : Int) == 256) = true) :
    Calls Try.prog 7 #[.pointer (some ⟨N.p, 0, none⟩)] w fun e w' => e = .returned (.tuple #[.int .i64 0, .int .i64 14]) ∧ Quiet w w' := by
  have hp0 : w.cell? ⟨N.p, 0, none⟩ = some (.bool true) := blk_cell h.net 0
  have hp1 : w.cell? ⟨N.p, 1, none⟩ = some (.slice N.A xs.length N.c) := blk_cell h.net 1
  have hps := lt_of_heap h.net
  have HN := Lib.hid h; clear h
  go_enter Try.func7, Try.ntmps7
  go_wp2
  exact bodyPost_ret (v := .tuple #[.int .i64 0, .int .i64 14]) (by simp [results, Try.results7, go_sem]) rfl ⟨rfl, by repeat (first | exact Only.refl _ _ | refine Only.drewN ?_ _ | refine Only.drew ?_ | refine Only.alloc ?_ _)⟩
set_option maxHeartbeats 4000000 in
theorem open_ok {N : NMem} {xs : List Wire} {w : World} (h : NetAt w N xs) (hf : ((xs.length : Int) == 256) = false) :
    Calls Try.prog 7 #[.pointer (some ⟨N.p, 0, none⟩)] w fun e w' => e = .returned (.tuple #[.int .i64 ((xs.length : Int) + 1), .int .i64 0]) ∧ ∃ N', NetAt w' N' (xs ++ [newWire]) ∧ NStep w w' N N' := by
  have hp0 : w.cell? ⟨N.p, 0, none⟩ = some (.bool true) := blk_cell h.net 0
  have hp1 : w.cell? ⟨N.p, 1, none⟩ = some (.slice N.A xs.length N.c) := blk_cell h.net 1
  have hps := lt_of_heap h.net
  have hle := h.small
  have hlt : xs.length < 256 := by have : ¬ (xs.length = 256) := fun e => by simp [e] at hf
                                   omega
  obtain ⟨ip, hi0, hz0, hz1, hz2⟩ := info_parts Try.info60
  have HN := Lib.hid h; clear h
  go_enter Try.func7, Try.ntmps7
  go_wp2_with (at_builtin; refine wpList_append_sl _ rfl (.tmp 25) (.tmp 28) 24 rfl 60 ip (.pointer none) 8 Try.underlying24 hi0 hz0 hz1 hz2 rfl N.A xs.length N.c (N.ws.map fun m => ptr m.blk) rfl ?c1 (some ⟨w.heap.size + 1, 0, none⟩) 1 1 [ptr w.heap.size] rfl rfl ?c2 nofun ?c3 ?c4 ?c5 ?_)
  case c1 => exact (HN.out.row.alloc _).alloc _
  case c2 => exact fun _ => ⟨_, 0, rfl, fun i u hu => by
    have hi := (List.getElem?_eq_some_iff.1 hu).1
    simp at hi
    subst hi
    simp at hu
    subst hu
    exact (blk_cell (blk_newAt (w.alloc (.cells #[.slice none 0 0, .bool false, .slice none 0 0, .bool false, .bool false] 65)) (.cells #[.pointer (some ⟨w.heap.size, 0, none⟩)] 60) (g := w.heap.size + 1) (by simp)) 0)⟩
  case c3 =>
    intro u hu
    rw [List.mem_singleton] at hu
    subst hu
    rfl
  case c4 => unfold maxLen; omega
  case c5 => omega
  intro A' c' w' hsl hon hrow
  have hq : Quiet w ((w.alloc (.cells #[.slice none 0 0, .bool false, .slice none 0 0, .bool false, .bool false] 65)).alloc (.cells #[.pointer (some ⟨w.heap.size, 0, none⟩)] 60)) := ((Only.refl _ _).alloc _).alloc _
  obtain ⟨s1, s2⟩ := open_end HN.out hlt hq (blk_alloc (blk_new w _) _) hon hsl (fun k hk => by simpa using hrow k hk)
  have hnp : ¬ RowOf N.A N.p := fun hk => by
    obtain ⟨cur, hc⟩ := HN.out.row.type hk
    exact blk_ne hc HN.out.net (by decide) rfl
  have hP := hon.keep (hq.keep HN.out.net (fun x => x)) hnp
  have e0 : w'.cell? ⟨N.p, 0, none⟩ = some (.bool true) := blk_cell hP 0
  have e1 : w'.cell? ⟨N.p, 1, none⟩ = some (.slice N.A xs.length N.c) := blk_cell hP 1
  have e2 := blk_frozen hP 1
  have S1 := Lib.hid s1; clear s1
  have S2 := Lib.hid s2; clear s2
  clear hsl hon hrow hq hP hnp
  go_wp2
  exact bodyPost_ret (v := .tuple #[.int .i64 ((xs.length : Int) + 1), .int .i64 0]) (by simp [results, Try.results7, go_sem]) rfl ⟨rfl, _, S1.out, S2.out⟩
theorem open_at {N : NMem} {xs : List Wire} {w : World} (h : NetAt w N xs) :
    Calls Try.prog 7 #[.pointer (some ⟨N.p, 0, none⟩)] w fun e w' => e = .returned (.tuple #[.int .i64 (openF xs).1, .int .i64 (openF xs).2.1]) ∧ ∃ N', NetAt w' N' (openF xs).2.2 ∧ NStep w w' N N' := by
  unfold openF
  by_cases hf : xs.length = 256
  · rw [if_pos hf]
    refine (open_full h (by simp [hf])).mono ?_
    rintro e w' ⟨rfl, hq⟩
    exact ⟨rfl, N, h.quiet hq, NStep.refl N hq⟩
  · rw [if_neg hf]
    exact open_ok h (by simp; omega)
end Go.Proofs.Ytdigeppbflkknaa
