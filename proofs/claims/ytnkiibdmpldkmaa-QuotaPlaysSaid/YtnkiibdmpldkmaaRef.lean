/-
  The document's own book (gatepostref20): how it lies in memory, and what its New makes. No conditions.
-/
import Derived.Test.YtnkiibdmpldkmaaNew
import Derived.Deep.RegionLaw
import Derived.Deep.AppendLies
import Derived.Deep.RegionLawGrows
namespace Go.Proofs.Ytnkiibdmpldkmaa
open Go.RowKit

/-- A row of numbers in a block of its own: it reads as xs as far as these go. -/
def RowAt (w : World) (g : Nat) (xs : List Int) : Prop := ∃ cur : Array Value, w.heap[g]? = some (.cells cur 3 (0, 0)) ∧ ∀ (i : Nat) (x : Int), xs[i]? = some x → cur[i]? = some (Value.int .i64 x)
structure RefAt (w : World) (q n c1 g1 g2 g3 : Nat) (S : List Acct) : Prop where
  ptr : w.heap[q]? = some (.cells #[.slice (some ⟨g1, 0, none⟩) n c1, .slice (some ⟨g2, 0, none⟩) n n, .slice (some ⟨g3, 0, none⟩) n n] 46 (0, 0))
  len : S.length = n
  lims : RowAt w g1 (S.map (·.lim))
  inns : RowAt w g2 (S.map (·.inn))
  pins : RowAt w g3 (S.map (·.pin))
  n12 : g1 ≠ g2
  n13 : g1 ≠ g3
  n23 : g2 ≠ g3

theorem newCode_neg {l : List Int} {k : Nat} {x : Int} (hx : l[k]? = some x) (hn : x < 0) : newCode l = 2 := by
  have ha : l.any (fun x => decide (x < 0)) = true := List.any_eq_true.2 ⟨x, List.mem_of_getElem? hx, by simpa using hn⟩
  unfold newCode
  rw [ha]
  split <;> rfl
theorem newCode_big {l : List Int} {k : Nat} {x : Int} (hl : ¬ (l.length < 1 ∨ 16 < l.length)) (h0 : l.any (fun x => decide (x < 0)) = false) (hx : l[k]? = some x) (hn : 1099511627776 < x) : newCode l = 3 := by
  have ha : l.any (fun x => decide (1099511627776 < x)) = true := List.any_eq_true.2 ⟨x, List.mem_of_getElem? hx, by simpa using hn⟩
  unfold newCode
  rw [if_neg hl, h0, ha]
  rfl
theorem any_step {f : Int → Bool} {l : List Int} {k : Nat} {x : Int} (h : (l.take k).any f = false) (hx : l[k]? = some x) (hf : f x = false) : (l.take (k + 1)).any f = false := by
  rw [take_snoc_int l k x hx, List.any_append, h]
  simp [hf]
def RNewPost (l : List Int) (w : World) (e : Ending) (w' : World) : Prop :=
  Quiet w w' ∧ if newCode l = 0 then ∃ q n c1 g1 g2 g3, e = .returned (.tuple #[.pointer (some ⟨q, 0, none⟩), .int .i64 0]) ∧ RefAt w' q n c1 g1 g2 g3 (fresh l) ∧ w.heap.size ≤ q ∧ w.heap.size ≤ g1 ∧ w.heap.size ≤ g2 ∧ w.heap.size ≤ g3
    else e = .returned (.tuple #[.pointer none, .int .i64 (newCode l)])
theorem rpost_code {l : List Int} {w : World} {c : Int} (h : newCode l = c) (h0 : c ≠ 0) : RNewPost l w (.returned (.tuple #[.pointer none, .int .i64 c])) w := by
  refine ⟨Only.refl _ _, ?_⟩
  rw [h, if_neg h0]
/-- 'append' of a row that lies somewhere onto nothing, as one step of a region that draws: a new row, its shape written out. -/
theorem step_append_new {P : Program} {ops : Array Oper} {o : Oper} {a : Act} {w : World} {K : Act → World → Prop} {Q : Exit → Act → World → Prop} {E : Prop}
    (hg : o.guard = none) (s x : Operand) (t : TypeId) (hop : o.op = Op.call { callee := Callee.builtin Builtin.append, args := #[s, x], argTypes := #[t, t] })
    (e : TypeId) (i : TypeInfo) (z : Value) (bytes : Nat) (h1 : P.underlying t = some (.slice e)) (h2 : P.info? e = some i) (h3 : i.zero = some z) (h4 : i.size = 1) (h5 : i.bytes = bytes) (h6 : z.cells.size = 1)
    (ad0 : Addr) (hs : a.eval s = .slice (some ad0) 0 0)
    (ad : Addr) (m c : Nat) (news : List Value) (hx : a.eval x = .slice (some ad) m c) (hn : news.length = m * 1) (hc : ∀ j u, news[j]? = some u → w.cell? (ad.add j) = some u) (h1c : ∀ u ∈ news, u.oneCell' = true)
    (hm : 0 < m) (b1 : m ≤ maxLen) (b2 : m * bytes ≤ 140737488355328)
    (hK : ∀ g cap w', w'.ownsRow w.heap.size e 1 (.slice (some ⟨g, 0, none⟩) m cap) m news → w.grownBy w' none → K (a.put o.dst (.slice (some ⟨g, 0, none⟩) m cap)) w') :
    if Region.wanted o (yielded ops a.tmps) = true then Oper.wp P o a w K Q else E := by
  refine step_append_grows hg s x t hop e i z 1 bytes h1 h2 h3 h4 h5 h6 (by decide) (some ad0) 0 0 [] hs (fun h => nomatch h) rfl (fun _ _ _ _ hu => nomatch hu) ad m c news hx hn hc h1c (by omega) (by omega) (by rw [Nat.zero_add]; exact b2) ?_
  intro v' w' hown hgrow
  simp only [Nat.zero_add, List.nil_append] at hown
  have hown2 := hown
  obtain ⟨_, h | ⟨g, cap, cur, hv, _⟩⟩ := hown
  · omega
  · subst hv
    exact hK g cap w' hown2 hgrow
def zeros (n : Nat) : Array Value := madeCells #[.int .i64 0] n
theorem zeros_at (n i : Nat) (h : i < n) : (zeros n)[i]? = some (.int .i64 0) := by
  unfold zeros
  rw [← Array.getElem?_toList, toList_madeCells_one]
  simp [h]
theorem blk_at {w : World} {g : Nat} (o : Obj) (h : g = w.heap.size) : (w.alloc o).heap[g]? = some o := by subst h; exact blk_new w o
theorem blk_drew {w : World} {g : Nat} {o : Obj} (h : w.heap[g]? = some o) : w.drew.heap[g]? = some o := h
theorem blk_drewN {w : World} {g n : Nat} {o : Obj} (h : w.heap[g]? = some o) : (w.drewN n).heap[g]? = some o := h
theorem blk_grown {w w' : World} {g : Nat} {o : Obj} (hg : w.grownBy w' none) (h : w.heap[g]? = some o) : w'.heap[g]? = some o := (hg.block g (lt_of_heap h) (by simp)).trans h
theorem Only.grownN {S : Nat → Prop} {a w w' : World} (h : Only S a w) (hg : w.grownBy w' none) : Only S a w' := h.of_grown hg (fun _ h => by cases h)
theorem rnew_end {l : List Int} {w W : World} {q n c1 g1 g2 g3 : Nat} {cur : Array Value} (hc : newCode l = 0) (hl : l.length = n) (hq : W.heap[q]? = some (.cells #[.slice (some ⟨g1, 0, none⟩) n c1, .slice (some ⟨g2, 0, none⟩) n n, .slice (some ⟨g3, 0, none⟩) n n] 46 (0, 0)))
    (h1 : W.heap[g1]? = some (.cells cur 3 (0, 0))) (hcur : cur.toList.take (n * 1) = l.map (Value.int .i64)) (h2 : W.heap[g2]? = some (.cells (zeros n) 3 (0, 0))) (h3 : W.heap[g3]? = some (.cells (zeros n) 3 (0, 0)))
    (hne : g1 ≠ g2 ∧ g1 ≠ g3 ∧ g2 ≠ g3 ∧ w.heap.size ≤ q ∧ w.heap.size ≤ g1 ∧ w.heap.size ≤ g2 ∧ w.heap.size ≤ g3) (ho : Quiet w W) :
    RNewPost l w (.returned (.tuple #[.pointer (some ⟨q, 0, none⟩), .int .i64 0])) W := by
  obtain ⟨n1, n2, n3, b1, b2, b3, b4⟩ := hne
  refine ⟨ho, ?_⟩
  rw [if_pos hc]
  refine ⟨q, n, c1, g1, g2, g3, rfl, ⟨hq, by simp [fresh, hl], ⟨cur, h1, fun i x hx => ?_⟩, ⟨_, h2, fun i x hx => ?_⟩, ⟨_, h3, fun i x hx => ?_⟩, n1, n2, n3⟩, b1, b2, b3, b4⟩
  · have e : (fresh l).map (·.lim) = l := by simp [fresh, Function.comp_def]
    rw [e] at hx
    have hi := (List.getElem?_eq_some_iff.1 hx).1
    have h4 : (cur.toList.take (n * 1))[i]? = some (.int .i64 x) := by rw [hcur]; simp [hx]
    rw [List.getElem?_take_of_lt (by omega)] at h4
    simpa using h4
  · have hi := (List.getElem?_eq_some_iff.1 hx).1
    simp [fresh, List.getElem?_map] at hx
    obtain ⟨_, _, rfl⟩ := hx
    exact zeros_at n i (by simp [fresh] at hi; omega)
  · have hi := (List.getElem?_eq_some_iff.1 hx).1
    simp [fresh, List.getElem?_map] at hx
    obtain ⟨_, _, rfl⟩ := hx
    exact zeros_at n i (by simp [fresh] at hi; omega)
theorem Try.row3 : (Try.prog.info? 3).map (fun i => (i.zero, i.size, i.bytes)) = some (some (.int .i64 0), 1, 8) := by kernel_rfl
theorem make31 (n : Nat) (h : n ≤ 16) (w : World) : (Instr.makeSlice 31 (.int .i64 (n : Int)) (.int .i64 (n : Int))).run Try.prog w = .ok (.slice (some ⟨w.heap.size, 0, none⟩) n n) (w.alloc (.cells (zeros n) 3)) := by
  obtain ⟨i0, hi0, hz0, hz1, hz2⟩ := info_parts Try.row3
  have := run_make (P := Try.prog) w 31 3 i0 (.int .i64 0) Try.underlying31 hi0 hz0 .i64 .i64 n n (by omega) (by omega) (by rw [hz2]; omega) (by omega)
  rw [hz1] at this
  simpa [zeros, Value.cells] using this
set_option maxHeartbeats 2000000 in
theorem rnew_any (A : Option Addr) (n c : Nat) (l : List Int) (w : World) (harg : IntsArg .i64 w A n l) :
    Calls Try.prog 17 #[.slice A n c] w (RNewPost l w) := by
  obtain ⟨hln, hwf, hcell⟩ := harg
  by_cases h0 : n = 0
  · subst h0
    have hc : newCode l = 2 := by unfold newCode; rw [if_pos (by omega)]
    go_enter Try.func17, Try.ntmps17
    go_wp2
    go_ret2
    exact rpost_code hc (by decide)
  · have hz : decide (((n : Nat) : Int) < 1) = false := by simp; omega
    obtain ⟨b, off, rfl, hb, hcell⟩ := hcell (by omega)
    by_cases h16 : 16 < n
    · have hc : newCode l = 2 := by unfold newCode; rw [if_pos (by omega)]
      have hz2 : decide ((16 : Int) < ((n : Nat) : Int)) = true := by simp; omega
      go_enter Try.func17, Try.ntmps17
      go_wp2
      go_ret2
      exact rpost_code hc (by decide)
    · have HC := Lib.hid hcell; clear hcell
      have HL := Lib.hid hln; clear hln
      have hz2 : decide ((16 : Int) < ((n : Nat) : Int)) = false := by simp; omega
      go_enter Try.func17, Try.ntmps17
      go_wp2
      go_loop [4] (fun i => ∃ k : Nat, k ≤ n ∧ i = .int .i64 k ∧ (l.take k).any (fun x => decide (x < 0)) = false) (fun i => n - (intOf i).toNat)
      case atStart => exact ⟨0, Nat.zero_le _, rfl, rfl⟩
      case round =>
        obtain ⟨k, hk, rfl, h3⟩ := hrel
        by_cases hlt : k < n
        · obtain ⟨x, hx⟩ : ∃ x, l[k]? = some x := ⟨_, List.getElem?_eq_getElem (by have := HL.out; omega)⟩
          have hcx := HC.out k x hx
          have HX := Lib.hid hx; clear hx
          have H3 := Lib.hid h3; clear h3
          by_cases hneg : x < 0
          · go_wp2
            go_ret2
            exact rpost_code (newCode_neg HX.out hneg) (by decide)
          · go_wp2
            go_round
            case rel => exact ⟨k + 1, by omega, by go_num, any_step H3.out HX.out (by simp; omega)⟩
            case measure => simp [intOf]; omega
        · have hkn : k = n := by omega
          subst hkn
          rw [List.take_of_length_le (by have := HL.out; omega)] at h3
          have H3 := Lib.hid h3; clear h3
          go_wp2
          go_loop [5] (fun i => ∃ j : Nat, j ≤ k ∧ i = .int .i64 j ∧ (l.take j).any (fun x => decide (1099511627776 < x)) = false) (fun i => k - (intOf i).toNat)
          case atStart => exact ⟨0, Nat.zero_le _, rfl, rfl⟩
          case round =>
            obtain ⟨j, hj, rfl, h4⟩ := hrel
            by_cases hlt2 : j < k
            · obtain ⟨x, hx⟩ : ∃ x, l[j]? = some x := ⟨_, List.getElem?_eq_getElem (by have := HL.out; omega)⟩
              have hcx := HC.out j x hx
              have HX := Lib.hid hx; clear hx
              have H4 := Lib.hid h4; clear h4
              by_cases hneg : 1099511627776 < x
              · go_wp2
                go_ret2
                exact rpost_code (newCode_big (by have := HL.out; omega) H3.out HX.out hneg) (by decide)
              · go_wp2
                go_round
                case rel => exact ⟨j + 1, by omega, by go_num, any_step H4.out HX.out (by simp; omega)⟩
                case measure => simp [intOf]; omega
            · have hjk : j = k := by omega
              subst hjk
              rw [List.take_of_length_le (by have := HL.out; omega)] at h4
              have H4 := Lib.hid h4; clear h4
              have HNC := Lib.hid (show newCode l = 0 by unfold newCode; rw [if_neg (by have := HL.out; omega), H3.out, H4.out]; rfl)
              have hmk := make31 j (by omega)
              obtain ⟨i0, hi0, hz0, hz1, hz2⟩ := info_parts Try.row3
              have hnews : ∀ W' : World, Quiet w W' → ∀ (t : Nat) (u : Value), (l.map (Value.int .i64))[t]? = some u → W'.cell? ((⟨b, off, none⟩ : Addr).add t) = some u := by
                intro W' hq t u hu
                rw [List.getElem?_map, Option.map_eq_some_iff] at hu
                obtain ⟨x, hx, rfl⟩ := hu
                rw [Addr.add_lit]
                exact (hq.cell (p := ⟨b, off + t, none⟩) hb (fun x => x)).trans (HC.out t x hx)
              have HN := Lib.hid hnews; clear hnews
              have hlj : (l.map (Value.int .i64)).length = j * 1 := by simp [HL.out]
              have HLJ := Lib.hid hlj; clear hlj
              go_wp2
              go_region_law (refine step_append_new rfl (.tmp 36) (.tmp 37) 31 rfl 3 i0 (.int .i64 0) 8 Try.underlying31 hi0 hz0 hz1 hz2 rfl _ rfl ⟨b, off, none⟩ j c (l.map (Value.int .i64)) rfl HLJ.out (HN.out _ (by repeat (first | exact Only.refl _ _ | refine Only.drewN ?_ _ | refine Only.drew ?_ | refine Only.alloc ?_ _))) (ints_oneCell _ _) (by omega) (by unfold maxLen; omega) (by omega) ?_; intro g' cap' w' hown' hgrow')
              all_goals
                go_wp2
                go_ret2
                obtain ⟨_, h | ⟨g'', cap'', cur, hv, hbase, hrow, _, _, _, htake⟩⟩ := hown'
                · exact absurd h.2 h0
                simp only [Value.slice.injEq, Option.some.injEq, Addr.mk.injEq] at hv
                obtain ⟨⟨rfl, _⟩, _, rfl⟩ := hv
                have hlt := lt_of_heap hrow
                have hsz := hgrow'.size
                (try simp only [World.size_alloc, World.size_drew] at hbase hsz)
                refine rnew_end (cur := cur) HNC.out HL.out (blk_at _ (by simp)) ?_ htake ?_ ?_ ?_ ?_
                · with_reducible repeat (first | exact hrow | (refine blk_at _ ?_; simp; done) | refine blk_alloc ?_ _ | refine blk_drew ?_ | refine blk_drewN ?_ | refine blk_grown hgrow' ?_)
                · with_reducible repeat (first | exact hrow | (refine blk_at _ ?_; simp; done) | refine blk_alloc ?_ _ | refine blk_drew ?_ | refine blk_drewN ?_ | refine blk_grown hgrow' ?_)
                · with_reducible repeat (first | exact hrow | (refine blk_at _ ?_; simp; done) | refine blk_alloc ?_ _ | refine blk_drew ?_ | refine blk_drewN ?_ | refine blk_grown hgrow' ?_)
                · (try simp only [World.size_alloc, World.size_drew]); omega
                · with_reducible repeat (first | exact Only.refl _ _ | refine Only.drewN ?_ _ | refine Only.drew ?_ | refine Only.alloc ?_ _ | refine Only.grownN ?_ hgrow')
end Go.Proofs.Ytnkiibdmpldkmaa
