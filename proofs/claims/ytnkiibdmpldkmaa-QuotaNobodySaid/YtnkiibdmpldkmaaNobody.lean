/-
  THE STATEMENT QuotaNobody: books that no call made have no tenants. No conditions.
-/
import Derived.Test.YtnkiibdmpldkmaaGets
namespace Go.Proofs.Ytnkiibdmpldkmaa
open Go.RowKit

/-- A book that no call made: nil, or an empty one. -/
def Nobody (w : World) (b : Value) : Prop := b = .pointer none ∨ ∃ p, b = .pointer (some ⟨p, 0, none⟩) ∧ w.heap[p]? = some (.cells #[.map none] 25 (0, 0))
theorem Nobody.quiet {w w' : World} {b : Value} (h : Nobody w b) (ho : Quiet w w') : Nobody w' b := by
  rcases h with rfl | ⟨p, rfl, hp⟩
  · exact .inl rfl
  · exact .inr ⟨p, rfl, ho.keep hp (fun x => x)⟩
set_option maxHeartbeats 400000 in
theorem charge_nobody (b : Value) (t n : Int) (w : World) (h : Nobody w b) : Calls Try.prog 7 #[b, .int .i64 t, .int .i64 n] w fun e w' => e = .returned (.int .i64 1) ∧ Quiet w w' := by
  rcases h with rfl | ⟨p, rfl, hp⟩
  · go_enter Try.func7, Try.ntmps7
    go_wp2
    go_ret
    exact ⟨rfl, (Only.refl _ _).alloc _⟩
  · have hc : w.cell? ⟨p, 0, none⟩ = some (.map none) := blk_cell hp 0
    have hs := lt_of_heap hp
    clear hp
    go_enter Try.func7, Try.ntmps7
    go_wp2
    go_ret
    exact ⟨rfl, (Only.refl _ _).alloc _⟩
set_option maxHeartbeats 400000 in
theorem part_nobody (b : Value) (t n : Int) (w : World) (h : Nobody w b) : Calls Try.prog 8 #[b, .int .i64 t, .int .i64 n] w fun e w' => e = .returned (.int .i64 1) ∧ Quiet w w' := by
  rcases h with rfl | ⟨p, rfl, hp⟩
  · go_enter Try.func8, Try.ntmps8
    go_wp2
    go_ret
    exact ⟨rfl, (Only.refl _ _).alloc _⟩
  · have hc : w.cell? ⟨p, 0, none⟩ = some (.map none) := blk_cell hp 0
    have hs := lt_of_heap hp
    clear hp
    go_enter Try.func8, Try.ntmps8
    go_wp2
    go_ret
    exact ⟨rfl, (Only.refl _ _).alloc _⟩
set_option maxHeartbeats 400000 in
theorem refund_nobody (b : Value) (t n : Int) (w : World) (h : Nobody w b) : Calls Try.prog 9 #[b, .int .i64 t, .int .i64 n] w fun e w' => e = .returned (.int .i64 1) ∧ Quiet w w' := by
  rcases h with rfl | ⟨p, rfl, hp⟩
  · go_enter Try.func9, Try.ntmps9
    go_wp2
    go_ret
    exact ⟨rfl, (Only.refl _ _).alloc _⟩
  · have hc : w.cell? ⟨p, 0, none⟩ = some (.map none) := blk_cell hp 0
    have hs := lt_of_heap hp
    clear hp
    go_enter Try.func9, Try.ntmps9
    go_wp2
    go_ret
    exact ⟨rfl, (Only.refl _ _).alloc _⟩
set_option maxHeartbeats 400000 in
theorem unpin_nobody (b : Value) (t n : Int) (w : World) (h : Nobody w b) : Calls Try.prog 10 #[b, .int .i64 t, .int .i64 n] w fun e w' => e = .returned (.int .i64 1) ∧ Quiet w w' := by
  rcases h with rfl | ⟨p, rfl, hp⟩
  · go_enter Try.func10, Try.ntmps10
    go_wp2
    go_ret
    exact ⟨rfl, (Only.refl _ _).alloc _⟩
  · have hc : w.cell? ⟨p, 0, none⟩ = some (.map none) := blk_cell hp 0
    have hs := lt_of_heap hp
    clear hp
    go_enter Try.func10, Try.ntmps10
    go_wp2
    go_ret
    exact ⟨rfl, (Only.refl _ _).alloc _⟩
theorem of_nobody (b : Value) (t : Int) (w : World) (h : Nobody w b) : Calls Try.prog 24 #[b, .int .i64 t] w fun e w' => e = .returned (.agg #[.int .i64 0, .int .i64 0, .int .i64 0]) ∧ Quiet w w' := by
  rcases h with rfl | ⟨p, rfl, hp⟩
  · exact of_nil t w
  · exact of_empty p t w (blk_cell hp 0) (lt_of_heap hp)
theorem reached_nobody (b : Value) (t : Int) (w : World) (h : Nobody w b) : Calls Try.prog 12 #[b, .int .i64 t] w fun e w' => e = .returned (.int .i64 0) ∧ Quiet w w' := reached_of (s := ⟨0, 0, 0⟩) (of_nobody b t w h)
theorem pinned_nobody (b : Value) (t : Int) (w : World) (h : Nobody w b) : Calls Try.prog 13 #[b, .int .i64 t] w fun e w' => e = .returned (.int .i64 0) ∧ Quiet w w' := pinned_of (s := ⟨0, 0, 0⟩) (of_nobody b t w h)
theorem limit_nobody (b : Value) (t : Int) (w : World) (h : Nobody w b) : Calls Try.prog 14 #[b, .int .i64 t] w fun e w' => e = .returned (.int .i64 0) ∧ Quiet w w' := limit_of (s := ⟨0, 0, 0⟩) (of_nobody b t w h)
set_option maxHeartbeats 400000 in
theorem fits_nobody (b : Value) (t n : Int) (w : World) (h : Nobody w b) : Calls Try.prog 11 #[b, .int .i64 t, .int .i64 n] w fun e w' => e = .returned (.bool false) ∧ Quiet w w' := by
  have H := Lib.hid (of_nobody b t w h)
  rcases h with rfl | ⟨p, rfl, hp⟩
  · go_enter Try.func11, Try.ntmps11
    go_wp2_with (go_at_call 24; refine H.out.mono ?_; rintro e w' ⟨rfl, ho⟩)
    go_ret
    exact ⟨rfl, ho.alloc _⟩
  · have HP := Lib.hid hp; clear hp
    go_enter Try.func11, Try.ntmps11
    go_wp2_with (go_at_call 24; refine H.out.mono ?_; rintro e w' ⟨rfl, ho⟩; have hp' := ho.keep HP.out (fun x => x); have hc : w'.cell? ⟨p, 0, none⟩ = some (.map none) := blk_cell hp' 0; have hs := lt_of_heap hp'; clear hp')
    go_ret
    exact ⟨rfl, ho.alloc _⟩

set_option maxHeartbeats 1000000 in
theorem nobody_walk (t n : Int) (w : World) : Calls Try.prog 3 #[.int .i64 t, .int .i64 n] w fun e w' => e = .returned (.bool true) ∧ Quiet w w' := by
  go_enter Try.func3, Try.ntmps3
  go_wp2
  go_loopw [4, 6, 11] (fun _ _ i wr => ∃ k : Nat, k ≤ 2 ∧ i = .int .i64 k ∧ Quiet ((w.alloc (.cells #[.map none] 25)).alloc (.cells #[.pointer none, .pointer (some ⟨w.heap.size, 0, none⟩)] 22)) wr) (fun _ _ i _ => 2 - (intOf i).toNat)
  case atStart => exact ⟨0, by omega, rfl, Only.refl _ _⟩
  case round =>
    obtain ⟨k, hk, rfl, ho⟩ := hrel
    have h0 : wr.heap[w.heap.size]? = some (.cells #[.map none] 25 (0, 0)) := ho.keep (blk_alloc (blk_new w _) _) (fun x => x)
    have h1 : wr.heap[w.heap.size + 1]? = some (.cells #[.pointer none, .pointer (some ⟨w.heap.size, 0, none⟩)] 22 (0, 0)) := ho.keep (by simpa using blk_new (w.alloc (.cells #[.map none] 25)) (.cells #[.pointer none, .pointer (some ⟨w.heap.size, 0, none⟩)] 22)) (fun x => x)
    have c0 : wr.cell? ⟨w.heap.size + 1, 0, none⟩ = some (.pointer none) := blk_cell h1 0
    have c1 : wr.cell? ⟨w.heap.size + 1, 1, none⟩ = some (.pointer (some ⟨w.heap.size, 0, none⟩)) := blk_cell h1 1
    have HO := Lib.hid ho
    clear ho h1
    rcases (show k = 0 ∨ k = 1 ∨ k = 2 by omega) with rfl | rfl | rfl
    · have N0 := Lib.hid (show Nobody wr (.pointer none) from .inl rfl)
      clear h0
      go_wp2_with (first | (go_at_call 7; refine (charge_nobody _ _ _ _ N0.out).mono ?_; rintro e w1 ⟨rfl, ho1⟩; have N1 := Lib.hid (N0.out.quiet ho1)) | (go_at_call 8; refine (part_nobody _ _ _ _ N1.out).mono ?_; rintro e w2 ⟨rfl, ho2⟩; have N2 := Lib.hid (N1.out.quiet ho2)) | (go_at_call 9; refine (refund_nobody _ _ _ _ N2.out).mono ?_; rintro e w3 ⟨rfl, ho3⟩; have N3 := Lib.hid (N2.out.quiet ho3)) | (go_at_call 10; refine (unpin_nobody _ _ _ _ N3.out).mono ?_; rintro e w4 ⟨rfl, ho4⟩; have N4 := Lib.hid (N3.out.quiet ho4)) | (go_at_call 11; refine (fits_nobody _ _ _ _ N4.out).mono ?_; rintro e w5 ⟨rfl, ho5⟩; have N5 := Lib.hid (N4.out.quiet ho5)) | (go_at_call 12; refine (reached_nobody _ _ _ N5.out).mono ?_; rintro e w6 ⟨rfl, ho6⟩; have N6 := Lib.hid (N5.out.quiet ho6)) | (go_at_call 13; refine (pinned_nobody _ _ _ N6.out).mono ?_; rintro e w7 ⟨rfl, ho7⟩; have N7 := Lib.hid (N6.out.quiet ho7)) | (go_at_call 14; refine (limit_nobody _ _ _ N7.out).mono ?_; rintro e w8 ⟨rfl, ho8⟩; have N8 := Lib.hid (N7.out.quiet ho8)))
      go_roundw
      case rel => exact ⟨1, by omega, by go_num, ((((((((HO.out.trans ho1).trans ho2).trans ho3).trans ho4).trans ho5).trans ho6).trans ho7).trans ho8)⟩
      case measure => simp [intOf]
    · have N0 := Lib.hid (show Nobody wr (.pointer (some ⟨w.heap.size, 0, none⟩)) from .inr ⟨_, rfl, h0⟩)
      clear h0
      go_wp2_with (first | (go_at_call 7; refine (charge_nobody _ _ _ _ N0.out).mono ?_; rintro e w1 ⟨rfl, ho1⟩; have N1 := Lib.hid (N0.out.quiet ho1)) | (go_at_call 8; refine (part_nobody _ _ _ _ N1.out).mono ?_; rintro e w2 ⟨rfl, ho2⟩; have N2 := Lib.hid (N1.out.quiet ho2)) | (go_at_call 9; refine (refund_nobody _ _ _ _ N2.out).mono ?_; rintro e w3 ⟨rfl, ho3⟩; have N3 := Lib.hid (N2.out.quiet ho3)) | (go_at_call 10; refine (unpin_nobody _ _ _ _ N3.out).mono ?_; rintro e w4 ⟨rfl, ho4⟩; have N4 := Lib.hid (N3.out.quiet ho4)) | (go_at_call 11; refine (fits_nobody _ _ _ _ N4.out).mono ?_; rintro e w5 ⟨rfl, ho5⟩; have N5 := Lib.hid (N4.out.quiet ho5)) | (go_at_call 12; refine (reached_nobody _ _ _ N5.out).mono ?_; rintro e w6 ⟨rfl, ho6⟩; have N6 := Lib.hid (N5.out.quiet ho6)) | (go_at_call 13; refine (pinned_nobody _ _ _ N6.out).mono ?_; rintro e w7 ⟨rfl, ho7⟩; have N7 := Lib.hid (N6.out.quiet ho7)) | (go_at_call 14; refine (limit_nobody _ _ _ N7.out).mono ?_; rintro e w8 ⟨rfl, ho8⟩; have N8 := Lib.hid (N7.out.quiet ho8)))
      go_roundw
      case rel => exact ⟨2, by omega, by go_num, ((((((((HO.out.trans ho1).trans ho2).trans ho3).trans ho4).trans ho5).trans ho6).trans ho7).trans ho8)⟩
      case measure => simp [intOf]
    · go_wp2
      go_ret
      exact ⟨rfl, ((((Only.refl _ w).alloc _).alloc _).trans HO.out)⟩
theorem nobody_law (t : Int) (_ : (Lit.int .i64 t).wf = true) (n : Int) (_ : (Lit.int .i64 n).wf = true) (w : World) :
    Calls Try.prog 3 #[.int .i64 t, .int .i64 n] w fun e w' => e = .returned (.bool true) ∧ Below w.heap.size w w' :=
  (nobody_walk t n w).mono fun _ _ ⟨he, ho⟩ => ⟨he, ho.below (Nat.le_refl _) (fun _ x => x.elim)⟩
end Go.Proofs.Ytnkiibdmpldkmaa
