/-
  FillReaders' closure 'read': one reader reads on. No conditions.
-/
import Derived.Test.YtffockkdiimneaaBoxes
import Derived.Test.YtffockkdiimneaaReadersModel
namespace Go.Proofs.Ytffockkdiimneaa
open Go.RowKit
set_option linter.unusedVariables false
set_option linter.unusedSimpArgs false

theorem rread {w wr : World} {p b7 b8 b11 b16 : Nat} {M : RMem} {b : List UInt8} {s k : Nat} {L : Fin 4 → List UInt8} (h : RAt w p b7 b8 b11 b16 M (rd b s k) L wr) {g : Nat} (n : Nat) (hg : g ≤ b.length) :
    Calls Try.prog 14 #[.pointer (some ⟨p, 0, none⟩), .int .i64 1, .int .i64 (g : Int), .int .i64 (n : Int)] wr fun x w2 => ∃ A c, x = .returned (.tuple #[.slice A ((b.drop g).take n).length c, .int .i64 (s : Int), .int .i64 0]) ∧
      Bts w2 A ((b.drop g).take n).length c ((b.drop g).take n) ∧ Quiet wr w2 := by
  have hp := h.hp
  subst hp
  refine (read_at h.desk _ _ _).mono ?_
  rw [r_read b s k g n hg]
  rintro x w2 ⟨A, c, rfl, hs, _, hq⟩
  exact ⟨A, c, rfl, hs.toBts, hq⟩
theorem Try.row5r : (Try.prog.info? 5).map (fun i => (i.zero, i.size, i.bytes)) = some (some (.int .u8 0), 1, 1) := by kernel_rfl
theorem got_cell {w wr : World} {p b7 b8 b11 b16 : Nat} {M : RMem} {d : Desk} {L : Fin 4 → List UInt8} (h : RAt w p b7 b8 b11 b16 M d L wr) {j : Fin 4} (hj : j.1 < 3) : wr.cell? ⟨b11, j.1, none⟩ = some (rsl M L j) := by
  rw [blk_cell h.got j.1]
  rcases (show j = 0 ∨ j = 1 ∨ j = 2 by omega) with rfl | rfl | rfl <;> rfl
set_option maxRecDepth 8000 in
set_option maxHeartbeats 4000000 in
theorem reader_at {w wr : World} {p b7 b8 b11 b16 : Nat} {M : RMem} {b : List UInt8} {s k : Nat} {L : Fin 4 → List UInt8} (h : RAt w p b7 b8 b11 b16 M (rd b s k) L wr) (hb : b = L 3) (hbig : b.length ≤ 20000) (j : Fin 4) (hj : j.1 < 3) (hpre : Begins b (L j)) (n : Nat) (hn : n ≤ 30000) :
    Calls Try.prog 15 #[.int .i64 (j.1 : Int), .int .i64 (n : Int), .pointer (some ⟨b7, 0, none⟩), .pointer (some ⟨b8, 0, none⟩), .pointer (some ⟨b11, 0, none⟩), .pointer (some ⟨b16, 0, none⟩)] wr fun e w' => e = .returned (.bool true) ∧ ∃ M', RAt w p b7 b8 b11 b16 M' (rd b s k) (putL L j (L j ++ (b.drop (L j).length).take n)) w' ∧ M'.r 3 = M.r 3 := by
  obtain ⟨i0, hi0, hz0, hz1, hz2⟩ := info_parts Try.row5r
  have HR := Lib.hid h; clear h
  have hgl := hpre.le
  have HP := Lib.hid hpre; clear hpre
  have HB := Lib.hid hb; clear hb
  obtain ⟨r, hr⟩ : ∃ r : Nat, r = j.1 := ⟨_, rfl⟩
  rw [← hr]
  have r0 : (0 : Int) ≤ (r : Int) := by omega
  have r3 : (r : Int) < 3 := by omega
  have HRJ := Lib.hid hr
  have HD := Lib.hid (HR.out.quiet (Only.drew (Only.refl _ _)))
  obtain ⟨A, hA⟩ : ∃ A, A = (M.r j).A := ⟨_, rfl⟩
  obtain ⟨c, hc⟩ : ∃ c, c = (M.r j).c := ⟨_, rfl⟩
  obtain ⟨g, hg⟩ : ∃ g, g = (L j).length := ⟨_, rfl⟩
  have hrsl : rsl M L j = .slice A g c := by rw [hA, hc, hg]; rfl
  have FC := Lib.hid (fun (W : World) (hW : Quiet wr W) => show W.cell? ⟨b7, 0, none⟩ = some (.pointer (some ⟨p, 0, none⟩)) ∧ W.cell? ⟨b8, 0, none⟩ = some (.int .i64 1) ∧ W.cell? ⟨b11, r, none⟩ = some (.slice A g c) from
    ⟨blk_cell (HR.out.quiet hW).bd 0, blk_cell (HR.out.quiet hW).bi 0, by rw [hr, ← hrsl]; exact got_cell (HR.out.quiet hW) hj⟩)
  obtain ⟨c0, c1, c2⟩ := FC.out wr.drew (Only.drew (Only.refl _ _))
  have RD := Lib.hid (rread HD.out (g := g) n (by rw [hg]; exact hgl))
  have HA := Lib.hid hA; clear hA
  have HC := Lib.hid hc; clear hc
  rw [← hg]
  have HG := Lib.hid hg; clear hg
  obtain ⟨l2, hl2⟩ : ∃ l2, l2 = (b.drop g).take n := ⟨_, rfl⟩
  rw [← hl2] at RD ⊢
  have hm2 : l2.length ≤ 20000 := by rw [hl2, List.length_take, List.length_drop]; omega
  have HL2 := Lib.hid hl2; clear hl2
  obtain ⟨m, hm⟩ : ∃ m, m = l2.length := ⟨_, rfl⟩
  rw [← hm] at RD hm2
  have HM := Lib.hid hm; clear hm
  clear hr hrsl
  go_enter Try.func15, Try.ntmps15
  go_upto_region 1 with (fail)
  go_region_held3 (fun w' => w'.cell? ⟨b7, 0, none⟩ = some (.pointer (some ⟨p, 0, none⟩)) ∧ w'.cell? ⟨b8, 0, none⟩ = some (.int .i64 1) ∧ w'.cell? ⟨b11, r, none⟩ = some (.slice A g c)) (go_keep)
    (first
      | (go_at_call 14; refine RD.out.mono ?_; rintro e w2 ⟨A2, c2', rfl, hb2, hq2⟩; have HB2 := Lib.hid hb2; clear hb2; have Q2 := Lib.hid ((Only.drew (Only.refl (fun _ => False) wr)).trans hq2); clear hq2; obtain ⟨e0, e1, e2⟩ := FC.out w2 Q2.out))
  go_upto_region 2 with (fail)
  clear e0 e1 c0 c1 c2
  have hr2 := HR.out.quiet Q2.out
  have HR2 := Lib.hid hr2
  have HSL := Lib.hid (show Sl w2 5 A g c (bytes (L j)) by have := hr2.sl j; rw [← HA.out, ← HC.out, ← HG.out] at this; exact this)
  have bf : w2.frozen? ⟨b11, r, none⟩ = false := blk_frozen hr2.got r
  have bs := lt_of_heap hr2.got
  have hg20 : g ≤ 20000 := by have := HG.out; omega
  clear hr2
  go_wp2_with (at_builtin; refine wpList_append_sl _ rfl (.tmp 27) (.tmp 28) 22 rfl 5 i0 (.int .u8 0) 1 Try.underlying22 hi0 hz0 hz1 hz2 rfl A g c (bytes (L j)) rfl HSL.out A2 m c2' (bytes l2) rfl (by rw [bytes_len, HM.out]) HB2.out.toSrc (fun e => (HB2.out.nil e).1) (bytes_one _) (by unfold maxLen; omega) (by omega) ?_)
  intro A' c' w5 hsl' hon' hrow'
  have hg5 := hon'.keep HR2.out.got (by rw [HA.out]; exact HR2.out.notRow HR2.out.got (by decide) j)
  have bs5 := lt_of_heap hg5
  have bf5 : w5.frozen? ⟨b11, r, none⟩ = false := blk_frozen hg5 r
  obtain ⟨v5, bc5⟩ : ∃ v5, w5.cell? ⟨b11, r, none⟩ = some v5 := by
    rw [blk_cell hg5 r]
    rcases (show r = 0 ∨ r = 1 ∨ r = 2 by omega) with e | e | e <;> rw [e] <;> exact ⟨_, rfl⟩
  have PUT := Lib.hid (HR2.out.put j (w1 := w5) (ys := l2) (A' := A') (n' := g + m) (c' := c') (by rw [← HG.out, HM.out]) hsl' (by rw [← HA.out]; exact hon') (fun k hk => by rw [← HA.out]; exact hrow' k hk))
  clear hsl' hon' hrow' hg5
  have hbox : boxOf b11 b16 j = b11 := by unfold boxOf; rw [if_pos hj]
  have hidx : j.1 % 3 = r := by have := HRJ.out; omega
  rw [hbox, hidx] at PUT
  clear hbox hidx
  go_upto_region 3 with (fail)
  generalize w5.setCell ⟨b11, r, none⟩ (.slice A' (g + m) c') = w6 at PUT ⊢
  have hput := PUT.out
  obtain ⟨M6, hM6⟩ : ∃ M6, M6 = ({ M with r := putR M.r j ⟨A', c'⟩ } : RMem) := ⟨_, rfl⟩
  obtain ⟨L6, hL6⟩ : ∃ L6, L6 = putL L j (L j ++ l2) := ⟨_, rfl⟩
  have hlj : L6 j = L j ++ l2 := by rw [hL6]; simp [putL]
  have hl3 : L6 3 = b := by rw [hL6, HB.out]; unfold putL; rw [if_neg (by intro q; rw [← q] at hj; exact absurd hj (by decide))]
  have hlen : (L6 j).length = g + m := by rw [hlj, List.length_append, ← HG.out, ← HM.out]
  have hMA : (M6.r j).A = A' ∧ (M6.r j).c = c' := by rw [hM6]; simp [putR]
  rw [← hM6, ← hL6] at hput
  have hbeg : Begins b (L6 j) := by rw [hlj, HL2.out]; have := HP.out.read n; rwa [← HG.out] at this
  have hbt := hput.rowBts j
  rw [hMA.1, hMA.2, hlen] at hbt
  have hall := hput.rowBts 3
  rw [hl3] at hall
  have hle : g + m ≤ b.length := by have := hbeg.le; omega
  have t0 : w6.cell? ⟨b11, r, none⟩ = some (.slice A' (g + m) c') := by
    have := got_cell hput hj
    rw [show rsl M6 L6 j = .slice A' (g + m) c' by unfold rsl; rw [hMA.1, hMA.2, hlen], ← HRJ.out] at this
    exact this
  obtain ⟨A3, hA3⟩ : ∃ A3, A3 = (M6.r 3).A := ⟨_, rfl⟩
  obtain ⟨c3, hc3⟩ : ∃ c3, c3 = (M6.r 3).c := ⟨_, rfl⟩
  obtain ⟨nb, hnb⟩ : ∃ nb, nb = b.length := ⟨_, rfl⟩
  have t1 : w6.cell? ⟨b16, 0, none⟩ = some (.slice A3 nb c3) := by
    rw [blk_cell hput.all 0, hA3, hc3, hnb, ← hl3]
    rfl
  rw [← hA3, ← hc3, ← hnb] at hall
  rw [← hnb] at hle
  have hc3n := hall.le
  have hc3m := hall.cap
  unfold maxLen at hc3m
  obtain ⟨S, hS⟩ : ∃ S : ByteArray, S = ⟨(L6 j).toArray⟩ := ⟨_, rfl⟩
  have cv1 : ∀ q, (convert 22 9 (.slice A' (g + m) c')).run Try.prog (w6.drewN q) = .ok (.string S) (w6.drewN q) := fun q => by
    rw [hS]; exact lconv (hbt.only (F := fun _ => False) (Only.drewN (Only.refl _ _) q) (fun _ _ x => x))
  have cv2 : ∀ q, (convert 22 9 (.slice A3 (g + m) c3)).run Try.prog (w6.drewN q) = .ok (.string S) (w6.drewN q) := fun q => by
    have h1 := lconv ((hall.take hle).only (F := fun _ => False) (Only.drewN (Only.refl _ _) q) (fun _ _ x => x))
    rw [hS, hbeg, hlen]; exact h1
  have d1 : decide (((g : Int) + (m : Int)) ≤ (nb : Int)) = true := by simp; omega
  have d1' : decide (((g + m : Nat) : Int) ≤ (nb : Int)) = true := by simp; omega
  have i1 : (0 : Int) ≤ (g : Int) + (m : Int) := by omega
  have i2 : (g : Int) + (m : Int) ≤ (c3 : Int) := by omega
  have PUT6 := Lib.hid hput
  have FIN := Lib.hid (show ∃ M', RAt w p b7 b8 b11 b16 M' (rd b s k) (putL L j (L j ++ l2)) w6 ∧ M'.r 3 = M.r 3 from ⟨_, PUT.out, by show putR M.r j ⟨A', c'⟩ 3 = M.r 3; unfold putR; rw [if_neg (by intro q; rw [← q] at hj; exact absurd hj (by decide))]⟩)
  have bs6 := lt_of_heap hput.got
  have bs7 := lt_of_heap hput.all
  clear hput hM6 hL6 hlj hl3 hlen hMA hbeg hbt hall hA3 hc3 hnb hS PUT PUT6 HR2 HSL HB2 bf bs bs5 bf5 bc5 HD RD FC
  go_quiet (fail)
  go_wp2
  go_ret
  obtain ⟨M', hm', hm3⟩ := FIN.out
  exact ⟨rfl, M', hm'.quiet (by repeat (first | exact Only.refl _ _ | refine Only.drewN ?_ _ | refine Only.drew ?_)), hm3⟩
/-- The desk's calls, the boxes kept. -/
theorem rappend {w wr : World} {p b7 b8 b11 b16 : Nat} {M : RMem} {d d' : Desk} {L : Fin 4 → List UInt8} (h : RAt w p b7 b8 b11 b16 M d L wr) {id c0 : Int} {A : Option Addr} {n c : Nat} {l : List UInt8} (hb : Bts wr A n c l) (he : appendF d id l = (c0, d')) :
    Calls Try.prog 12 #[.pointer (some ⟨p, 0, none⟩), .int .i64 id, .slice A n c] wr fun x w2 => x = .returned (.int .i64 c0) ∧ ∃ M', RAt w p b7 b8 b11 b16 M' d' L w2 ∧ M'.r = M.r := by
  have hp := h.hp
  subst hp
  have hl := hb.len
  subst hl
  refine (append_at h.desk id A c l (Nat.le_trans hb.le hb.cap) (fun W hW => (hb.only hW (fun _ _ x => x)).toSrc) (fun e => (hb.nil e).1)).mono ?_
  rw [he]
  rintro x w2 ⟨rfl, D', hD', hs⟩
  exact ⟨rfl, _, h.step hD' hs, rfl⟩
theorem rend {w wr : World} {p b7 b8 b11 b16 : Nat} {M : RMem} {d d' : Desk} {L : Fin 4 → List UInt8} (h : RAt w p b7 b8 b11 b16 M d L wr) {id c0 : Int} {whole : Bool} (he : endF d id whole = (c0, d')) :
    Calls Try.prog 10 #[.pointer (some ⟨p, 0, none⟩), .int .i64 id, .bool whole] wr fun x w2 => x = .returned (.int .i64 c0) ∧ ∃ M', RAt w p b7 b8 b11 b16 M' d' L w2 := by
  have hp := h.hp
  subst hp
  refine (end_at h.desk id whole).mono ?_
  rw [he]
  rintro x w2 ⟨rfl, D', hD', hs⟩
  exact ⟨rfl, _, h.step hD' hs⟩
theorem rleave {w wr : World} {p b7 b8 b11 b16 : Nat} {M : RMem} {d d' : Desk} {L : Fin 4 → List UInt8} (h : RAt w p b7 b8 b11 b16 M d L wr) {id c0 : Int} (hpart : ∀ e ∈ d.js, e.2.part < 4611686018427387904) (he : leaveF d id = (c0, d')) :
    Calls Try.prog 16 #[.pointer (some ⟨p, 0, none⟩), .int .i64 id] wr fun x w2 => x = .returned (.int .i64 c0) ∧ ∃ M', RAt w p b7 b8 b11 b16 M' d' L w2 ∧ M'.r = M.r := by
  have hp := h.hp
  subst hp
  refine (leave_at h.desk id hpart).mono ?_
  rw [he]
  rintro x w2 ⟨rfl, D', hD', hs⟩
  exact ⟨rfl, _, h.step hD' hs, rfl⟩
theorem rread0 {w wr : World} {p b7 b8 b11 b16 : Nat} {M : RMem} {d : Desk} {L : Fin 4 → List UInt8} (h : RAt w p b7 b8 b11 b16 M d L wr) {s c0 : Int} (he : readF d 1 0 0 = ([], s, c0)) :
    Calls Try.prog 14 #[.pointer (some ⟨p, 0, none⟩), .int .i64 1, .int .i64 0, .int .i64 0] wr fun x w2 => ∃ A c, x = .returned (.tuple #[.slice A 0 c, .int .i64 s, .int .i64 c0]) ∧ RAt w p b7 b8 b11 b16 M d L w2 := by
  have hp := h.hp
  subst hp
  refine (read_at h.desk _ _ _).mono ?_
  rw [he]
  rintro x w2 ⟨A, c, rfl, _, _, hq⟩
  exact ⟨A, c, rfl, h.quiet hq⟩
theorem rrunning {w wr : World} {p b7 b8 b11 b16 : Nat} {M : RMem} {d : Desk} {L : Fin 4 → List UInt8} (h : RAt w p b7 b8 b11 b16 M d L wr) {c0 : Int} (he : runningF d = c0) :
    Calls Try.prog 11 #[.pointer (some ⟨p, 0, none⟩)] wr fun x w2 => x = .returned (.int .i64 c0) ∧ RAt w p b7 b8 b11 b16 M d L w2 := by
  have hp := h.hp
  subst hp
  refine (running_at h.desk).mono ?_
  rw [he]
  rintro x w2 ⟨rfl, hq⟩
  exact ⟨rfl, h.quiet hq⟩
/-- Begin, over a desk alone, with blocks of other kinds kept. -/
theorem kbegin {w w1 : World} {p : Nat} {d d' : Desk} {id c : Int} {leads : Bool} {name : ByteArray} (h : DRel w p d w1) (hlast : d.last < 4611686018427387904) (hpart : ∀ e ∈ d.js, e.2.part < 4611686018427387904) (he : beginF d name = (id, leads, c, d')) :
    Calls Try.prog 9 #[.pointer (some ⟨p, 0, none⟩), .string name] w1 fun x w2 => x = .returned (.tuple #[.int .i64 id, .bool leads, .int .i64 c]) ∧ DRel w p d' w2 ∧
      ∀ (g : Nat) (cs : Array Value) (t : TypeId), w1.heap[g]? = some (.cells cs t (0, 0)) → t ≠ 48 → t ≠ 69 → t ≠ 5 → w2.heap[g]? = some (.cells cs t (0, 0)) := by
  obtain ⟨D, rfl, hD, hB, hO⟩ := h
  refine (begin_at hD name hlast hpart).mono ?_
  rw [he]
  rintro x w2 ⟨rfl, D', hD', hs⟩
  exact ⟨rfl, DRel.step rfl hB hO hD' hs, fun g cs t hg h1 h2 h3 => hs.keep hD hg h1 h2 h3⟩
theorem RAt.start {w wr : World} {p b7 b8 b11 b16 : Nat} {d : Desk} (h : DRel w p d wr) (h1 : wr.heap[b7]? = some (.cells #[.pointer (some ⟨p, 0, none⟩)] 24 (0, 0))) (h2 : wr.heap[b8]? = some (.cells #[.int .i64 1] 3 (0, 0)))
    (h3 : wr.heap[b11]? = some (.cells #[.slice none 0 0, .slice none 0 0, .slice none 0 0] 40 (0, 0))) (h4 : wr.heap[b16]? = some (.cells #[.slice none 0 0] 22 (0, 0))) (hlo : w.heap.size ≤ b7 ∧ w.heap.size ≤ b8 ∧ w.heap.size ≤ b11 ∧ w.heap.size ≤ b16) :
    ∃ M, RAt w p b7 b8 b11 b16 M d (fun _ => []) wr := by
  obtain ⟨D, e, hD, hB, hO⟩ := h
  have hno : ∀ (k : Nat), RowOf none k → False := fun k ⟨a, e, _⟩ => nomatch e
  exact ⟨⟨D, fun _ => ⟨none, 0⟩⟩, e, hD, hB, hO, h1, h2, h3, h4, hlo, fun j => Sl.nil _ _, fun i j _ k hk => (hno k hk).elim, fun j k hk => (hno k hk).elim, fun j k hk => (hno k hk).elim⟩
end Go.Proofs.Ytffockkdiimneaa
