/-
  The walk of FillOnce. No conditions.
-/
import Derived.Test.YtffockkdiimneaaRel
import Derived.Test.YtffockkdiimneaaOnceModel
import Derived.Test.YtffockkdiimneaaArgs
namespace Go.Proofs.Ytffockkdiimneaa
open Go.RowKit
set_option linter.unusedVariables false
set_option linter.unusedSimpArgs false

def runCells (r : Nat → Nat) : Array Value := #[.int .i64 (r 0 : Nat), .int .i64 (r 1 : Nat), .int .i64 (r 2 : Nat), .int .i64 (r 3 : Nat)]
theorem runCells_at (r : Nat → Nat) {k : Nat} (hk : k < 4) : (runCells r)[k]? = some (.int .i64 (r k : Nat)) := by
  have : k = 0 ∨ k = 1 ∨ k = 2 ∨ k = 3 := by omega
  rcases this with rfl | rfl | rfl | rfl <;> rfl
theorem runCells_set (r : Nat → Nat) {k : Nat} (hk : k < 4) (x : Nat) : (runCells r).setIfInBounds k (.int .i64 (x : Nat)) = runCells fun j => if j = k then x else r j := by
  have : k = 0 ∨ k = 1 ∨ k = 2 ∨ k = 3 := by omega
  rcases this with rfl | rfl | rfl | rfl <;> simp [runCells]
def cnt (s : Nat → Nat) : Nat → Nat
  | 0 => 0
  | t + 1 => cnt s t + if 0 < s t then 1 else 0
theorem cnt_le (s : Nat → Nat) : ∀ j, cnt s j ≤ j
  | 0 => Nat.le_refl _
  | t + 1 => by have := cnt_le s t; simp only [cnt]; split <;> omega
/-- What the walk holds in memory between its calls. -/
structure FRel (w : World) (p g : Nat) (d : Desk) (s : Nat → Nat) (w' : World) : Prop where
  desk : DRel w p d w'
  blk : w'.heap[g]? = some (.cells (runCells s) 26 (0, 0))
  lo : w.heap.size ≤ g
theorem FRel.quiet {w w1 w2 : World} {p g : Nat} {d : Desk} {s : Nat → Nat} (h : FRel w p g d s w1) (ho : Quiet w1 w2) : FRel w p g d s w2 := ⟨h.desk.quiet ho, ho.keep h.blk (fun x => x), h.lo⟩
theorem FRel.cell {w w1 : World} {p g : Nat} {d : Desk} {s : Nat → Nat} (h : FRel w p g d s w1) {k : Nat} (hk : k < 4) : w1.cell? ⟨g, k, none⟩ = some (.int .i64 (s k : Nat)) := (blk_cell h.blk k).trans (runCells_at s hk)
theorem FRel.set {w w1 : World} {p g : Nat} {d : Desk} {s : Nat → Nat} (h : FRel w p g d s w1) {k : Nat} (hk : k < 4) (x : Nat) : FRel w p g d (fun j => if j = k then x else s j) (w1.setCell ⟨g, k, none⟩ (.int .i64 (x : Nat))) := by
  have hO : Only (· = g) w1 (w1.setCell ⟨g, k, none⟩ (.int .i64 (x : Nat))) := Only.setCell (S := (· = g)) (p := ⟨g, k, none⟩) (Only.refl _ _) (fun _ => rfl) _
  refine ⟨h.desk.only hO (fun k hk => by rw [hk]; exact h.lo) (fun D hD k hk => hD.owns_ne h.blk (by decide) (by decide) (by decide) hk), ?_, h.lo⟩
  rw [← runCells_set s hk]
  exact blk_set h.blk k _
theorem fbegin {w w1 : World} {p g : Nat} {d : Desk} {s : Nat → Nat} {n k : Nat} (h : FRel w p g d s w1) (ho : Once d s n) (hk : k < 4) (hn : n < 1000) :
    Calls Try.prog 9 #[.pointer (some ⟨p, 0, none⟩), .string (nm k)] w1 fun x w2 => ∃ (id : Nat) (d' : Desk) (i : Nat) (e : Nat × Job), x = .returned (.tuple #[.int .i64 (id : Int), .bool (decide (s k = 0)), .int .i64 0]) ∧ (s k ≠ 0 → id = s k) ∧ 0 < id ∧
      FRel w p g d' s w2 ∧ Once d' (fun j => if j = k then id else s j) (n + 1) ∧ d'.js[i]? = some e ∧ e.1 = id ∧ e.2.name = nm k ∧ e.2.state = 0 ∧ 1 ≤ e.2.part := by
  obtain ⟨D, rfl, hD, hB, hO⟩ := h.desk
  refine (begin_at hD (nm k) (by have := ho.last; omega) (fun e he => by have := ho.part e he; omega)).mono ?_
  obtain ⟨id, d', i, e, h1, h2, h3, h4, h5⟩ := ho.begin hk (by omega) (fun e he => (hD.bound e he).1)
  rw [h1]
  rintro x w2 ⟨rfl, D', hD', hs⟩
  exact ⟨id, d', i, e, rfl, h2, h3, ⟨DRel.step rfl hB hO hD' hs, hs.keep hD h.blk (by decide) (by decide) (by decide), h.lo⟩, h4, h5⟩
theorem fend {w w1 : World} {p g : Nat} {d : Desk} {s r : Nat → Nat} {n k i : Nat} {e : Nat × Job} (h : FRel w p g d s w1) (ho : Once d r n) (hk : k < 4) (he : d.js[i]? = some e) (hen : e.2.name = nm k) (hes : e.2.state = 0) (hp : 1 ≤ e.2.part) :
    Calls Try.prog 10 #[.pointer (some ⟨p, 0, none⟩), .int .i64 (e.1 : Int), .bool true] w1 fun x w2 => ∃ d' : Desk, x = .returned (.int .i64 0) ∧ FRel w p g d' s w2 ∧ Once d' (fun j => if j = k then 0 else r j) n := by
  obtain ⟨D, rfl, hD, hB, hO⟩ := h.desk
  have hj := findJ_at hD he
  obtain ⟨d', h1, h2⟩ := ho.ended hk he hen hes hp hj
  refine (end_whole_keep hD hj he hes (by omega)).mono ?_
  rintro x w2 ⟨rfl, D', hD', hs⟩
  have hd : d' = { d with js := tidy (upd d.js i fun j => { j with state := 1 }) i } := by
    unfold endF at h1
    simp only [hj, he] at h1
    rw [if_neg (by omega)] at h1
    exact (congrArg Prod.snd h1).symm
  rw [← hd] at hD'
  exact ⟨d', rfl, ⟨DRel.step rfl hB hO hD' hs, hs.keep hD h.blk (by decide) (by decide) (by decide), h.lo⟩, h2⟩
theorem frunning {w w1 : World} {p g : Nat} {d : Desk} {s : Nat → Nat} {n : Nat} (h : FRel w p g d s w1) (ho : Once d s n) :
    Calls Try.prog 11 #[.pointer (some ⟨p, 0, none⟩)] w1 fun x w2 => x = .returned (.int .i64 (cnt s 4 : Nat)) ∧ Quiet w1 w2 := by
  obtain ⟨D, rfl, hD, hB, hO⟩ := h.desk
  refine (running_at hD).mono ?_
  rw [ho.count, show (if 0 < s 0 then 1 else 0) + (if 0 < s 1 then 1 else 0) + (if 0 < s 2 then 1 else 0) + (if 0 < s 3 then 1 else 0) = cnt s 4 by simp [cnt]]
  exact fun x w2 h => h
theorem fbig {w w1 : World} {p g : Nat} {d : Desk} {s : Nat → Nat} (h : FRel w p g d s w1) (name : ByteArray) (hb : 1024 < name.size) :
    Calls Try.prog 9 #[.pointer (some ⟨p, 0, none⟩), .string name] w1 fun e w' => e = .returned (.tuple #[.int .i64 0, .bool false, .int .i64 3]) ∧ Quiet w1 w' := by
  obtain ⟨D, rfl, hD, hB, hO⟩ := h.desk
  exact begin_big hD name hb
theorem nm_conv (w : World) {k : Nat} (hk : k < 4) : (convert 22 9 (.slice (some ⟨w.heap.size, 0, none⟩) 1 1)).run Try.prog (w.alloc (.cells #[.int .u8 (97 + (k : Int))] 5)) = .ok (.string (nm k)) (w.alloc (.cells #[.int .u8 (97 + (k : Int))] 5)) := by
  refine run_convert_bytes_back _ 22 9 5 _ 1 [UInt8.ofNat (97 + k)] Try.underlying22 Try.underlying5 Try.underlying9 fun j hj => ?_
  have hj0 : j = 0 := by simp at hj; omega
  subst hj0
  rw [Addr.add_lit]
  have hu : (UInt8.ofNat (97 + k)).toNat = 97 + k := by simp; omega
  have hb := blk_new w (.cells #[.int .u8 (97 + (k : Int))] 5)
  have := blk_cell hb 0
  simp only [List.getElem_cons_zero, hu]
  exact this
theorem Try.row5 : (Try.prog.info? 5).map (fun i => (i.zero, i.size, i.bytes)) = some (some (.int .u8 0), 1, 1) := by kernel_rfl
theorem zeros_cell (n j : Nat) (h : j < n) : (madeCells #[Value.int .u8 0] n)[j]? = some (.int .u8 0) := by
  rw [← Array.getElem?_toList, toList_madeCells_one]
  simp [h]
theorem zeros_make (w : World) (n : Nat) (hn : n ≤ 5000) : ∃ w1, (Instr.makeSlice 22 (.int .i64 (n : Int)) (.int .i64 (n : Int))).run Try.prog w = .ok (.slice (some ⟨w.heap.size, 0, none⟩) n n) w1 ∧ (convert 22 9 (.slice (some ⟨w.heap.size, 0, none⟩) n n)).run Try.prog w1 = .ok (.string ⟨(List.replicate n (0 : UInt8)).toArray⟩) w1 ∧ Quiet w w1 := by
  obtain ⟨i0, hi0, hz0, hz1, hz2⟩ := info_parts Try.row5
  have h1 := run_make (P := Try.prog) w 22 5 i0 (.int .u8 0) Try.underlying22 hi0 hz0 .i64 .i64 n n (by omega) (by omega) (by rw [hz2]; omega) (by omega)
  rw [hz1] at h1
  refine ⟨_, by simpa [Value.cells] using h1, ?_, (Only.refl _ _).alloc _⟩
  have h2 := run_convert_bytes_back (P := Try.prog) (w.alloc (.cells (madeCells #[Value.int .u8 0] n) 5)) 22 9 5 ⟨w.heap.size, 0, none⟩ n (List.replicate n (0 : UInt8)) Try.underlying22 Try.underlying5 Try.underlying9 (fun j hj => by
    have hj' : j < n := by simpa using hj
    have h2 := blk_cell (blk_new w (.cells (madeCells #[Value.int .u8 0] n) 5)) j
    rw [zeros_cell n j hj'] at h2
    rw [Addr.add_lit]
    simpa using h2)
  rw [List.length_replicate] at h2
  exact h2
theorem big_make (w : World) : ∃ w1 S, (Instr.makeSlice 22 (.int .i64 1025) (.int .i64 1025)).run Try.prog w = .ok (.slice (some ⟨w.heap.size, 0, none⟩) 1025 1025) w1 ∧ (convert 22 9 (.slice (some ⟨w.heap.size, 0, none⟩) 1025 1025)).run Try.prog w1 = .ok (.string S) w1 ∧ 1024 < S.size ∧ Quiet w w1 := by
  obtain ⟨w1, h1, h2, h3⟩ := zeros_make w 1025 (by omega)
  exact ⟨w1, _, h1, h2, by rw [ByteArray.size, List.size_toArray, List.length_replicate]; omega, h3⟩
set_option maxRecDepth 8000 in
set_option maxHeartbeats 4000000 in
theorem once_walk (w : World) (A : Option Addr) (n c : Nat) (l : List Int) (hnc : n ≤ c) (hcm : c ≤ maxLen) (arg : IntsArg .u8 w A n l) (B : Option Addr) (m c2 : Nat) (lb : List Bool) (hmc : m ≤ c2) (hcm2 : c2 ≤ maxLen) (arg2 : BoolsArg w B m lb) :
    Calls Try.prog 3 #[.slice A n c, .slice B m c2] w fun e w' => e = .returned (.bool true) ∧ Below w.heap.size w w' := by
  unfold maxLen at hcm hcm2
  have A1 := Lib.hid arg; clear arg
  have A2 := Lib.hid arg2; clear arg2
  go_enter Try.func3, Try.ntmps3
  go_wp2_with (go_at_call 8; refine (new_at _).mono ?_; rintro e w1 ⟨D, rfl, hD, hq, hown⟩; unfold ptr; have HD := Lib.hid hD; have HQ := Lib.hid hq; have HO := Lib.hid hown; clear hD hq hown)
  obtain ⟨g, hg⟩ : ∃ g, g = w1.heap.size := ⟨_, rfl⟩
  have hst : FRel w D.p g newDesk (fun _ => 0) (w1.alloc (.cells #[.int .i64 0, .int .i64 0, .int .i64 0, .int .i64 0] 26)) :=
    ⟨(DRel.start (Below.refl _ _) HD.out HQ.out HO.out).quiet ((Only.refl _ _).alloc _), by rw [hg]; exact blk_new _ _, by have := HQ.out.size; omega⟩
  rw [← hg]
  clear HD HQ HO hg
  generalize D.p = p at hst ⊢
  go_loopw [7] (fun i wr => ∃ (k : Nat) (d : Desk) (s : Nat → Nat), k ≤ 100 ∧ i = .int .i64 k ∧ FRel w p g d s wr ∧ Once d s k) (fun i _ => 100 - (intOf i).toNat)
  case atStart => exact ⟨0, _, _, by omega, rfl, hst, Once.new⟩
  case round =>
    clear hst
    obtain ⟨k, d, s, hk, rfl, hf, ho⟩ := hrel
    have HF := Lib.hid hf; clear hf
    have HON := Lib.hid ho; clear ho
    by_cases hc : k < n ∧ k < 100
    · obtain ⟨h1, h2⟩ := hc
      have dd1 : decide ((k : Int) < (n : Int)) = true := by simpa using h1
      have dd2 : decide ((k : Int) < 100) = true := by simp; omega
      obtain ⟨hl1, _, hcell1⟩ := A1.out
      obtain ⟨b1, o1, rfl, hb1, hcell1⟩ := hcell1 (by omega)
      obtain ⟨x, hx⟩ : ∃ x, l[k]? = some x := ⟨_, List.getElem?_eq_getElem (by omega)⟩
      have hcx : wr.cell? ⟨b1, o1 + k, none⟩ = some (.int .u8 x) := (HF.out.desk.below.cell (p := ⟨b1, o1 + k, none⟩) hb1).trans (hcell1 k x hx)
      clear hcell1 hx hl1
      obtain ⟨y, hy, hy3⟩ := and_mask (wrap64 x) 3 (by omega)
      have hy : bits .and .i64 (wrap64 x) 3 = (y : Int) := by simpa using hy
      have y4 : y < 4 := by omega
      have cv := nm_conv wr y4
      have HF0 := Lib.hid (HF.out.quiet (w2 := wr.alloc (.cells #[.int .u8 (97 + (y : Int))] 5)) ((Only.refl _ _).alloc _))
      have ij0 : (0 : Int) ≤ (y : Int) := by omega
      have ij4 : (y : Int) < 4 := by omega
      by_cases hz : s y = 0
      · have ds : decide (s y = 0) = true := by simpa using hz
        have de : ((s y : Int) == 0) = true := by simpa using hz
        go_upto_region 11 with (go_at_call 9; refine (fbegin HF0.out HON.out y4 (by omega)).mono ?_; rintro e w2 ⟨id, d2, i, e2, rfl, hid, hid0, hf2, ho2, he2, rfl, hen, hes, hep⟩; have HF2 := Lib.hid hf2; clear hf2; have HON2 := Lib.hid ho2; clear ho2; have HE2 := Lib.hid he2; clear he2; have HEN := Lib.hid hen; clear hen; have HES := Lib.hid hes; clear hes; have HEP := Lib.hid hep; clear hep; have hgs := lt_of_heap HF2.out.blk; have hgc := HF2.out.cell y4; have hgf := blk_frozen HF2.out.blk y; have hid9 : s y = 0 ∨ ((e2.1 : Int) != (s y : Int)) = false := (by rcases Nat.eq_zero_or_pos (s y) with q | q; exact .inl q; exact .inr (by have := hid (by omega); simp [this])); clear hid)
        have HF3 := Lib.hid (HF2.out.set y4 e2.1)
        have HC := Lib.hid hgc; clear hgc hgf hgs hid9
        generalize w2.setCell ⟨g, y, none⟩ (.int .i64 (e2.1 : Nat)) = w3 at HF3 ⊢
        have hl2 := A2.out.1
        by_cases hend : k < m ∧ lb[k]? = some true
        · obtain ⟨hkm, hlb⟩ := hend
          have dm : decide ((k : Int) < (m : Int)) = true := by simpa using hkm
          obtain ⟨b2, o2, rfl, hb2, hcell2⟩ := A2.out.2 (by omega)
          have hce : w3.cell? ⟨b2, o2 + k, none⟩ = some (.bool true) := (HF3.out.desk.below.cell (p := ⟨b2, o2 + k, none⟩) hb2).trans (hcell2 k true hlb)
          clear hcell2 hlb hl2
          go_upto_region 15 with (go_at_call 10; refine (fend HF3.out HON2.out y4 HE2.out HEN.out HES.out HEP.out).mono ?_; rintro e w4 ⟨d4, rfl, hf4, ho4⟩; have HF4 := Lib.hid hf4; clear hf4; have HON4 := Lib.hid ho4; clear ho4; have hgs := lt_of_heap HF4.out.blk; have hgf := blk_frozen HF4.out.blk y; have hgc4 := HF4.out.cell y4)
          have HF5 := Lib.hid (HF4.out.set y4 0)
          clear hgs hgf hgc4
          have es : (fun j => if j = y then 0 else (fun j => if j = y then e2.1 else s j) j) = fun j => if j = y then 0 else s j := by funext j; by_cases hj : j = y <;> simp [hj]
          have HON5 := Lib.hid HON4.out
          rw [es] at HF5 HON5
          clear HF4 HON4 HF3 HON2
          generalize w4.setCell ⟨g, y, none⟩ (.int .i64 (0 : Nat)) = w5 at HF5 ⊢
          generalize hs5 : (fun j => if j = y then 0 else s j) = s5 at HF5 HON5
          clear es hs5
          go_wp2
          obtain ⟨wo, rfl⟩ : ∃ wo : World, wo = w5 := ⟨_, rfl⟩
          go_loopw [12, 13] (fun v i wx => wx = wo ∧ ∃ j : Nat, j ≤ 4 ∧ i = .int .i64 j ∧ v = .int .i64 (cnt s5 j : Nat)) (fun _ i _ => 4 - (intOf i).toNat)
          case atStart => exact ⟨rfl, 0, by omega, rfl, rfl⟩
          case round =>
            obtain ⟨rfl, j, hj, rfl, rfl⟩ := hrel
            by_cases hj4 : j < 4
            · have dj : decide ((j : Int) < 4) = true := by simp; omega
              have jc := HF5.out.cell hj4
              have jg := lt_of_heap HF5.out.blk
              have j0 : (0 : Int) ≤ (j : Int) := by omega
              have j4 : (j : Int) < 4 := by omega
              have hcl := cnt_le s5 j
              by_cases hp : 0 < s5 j
              · have dp : decide ((0 : Int) < (s5 j : Nat)) = true := by simpa using hp
                go_wp2
                go_roundw
                case rel => exact ⟨by simp, j + 1, by omega, by go_num, by simp [cnt, hp] <;> go_num⟩
                case measure => simp [intOf]; omega
              · have dp : decide ((0 : Int) < (s5 j : Nat)) = false := by simpa using hp
                go_wp2
                go_roundw
                case rel => exact ⟨by simp, j + 1, by omega, by go_num, by simp [cnt, hp] <;> go_num⟩
                case measure => simp [intOf]; omega
            · have dj : decide ((j : Int) < 4) = false := by simp; omega
              have hc : cnt s5 4 = cnt s5 j := by rw [show j = 4 by omega]
              have HC4 := Lib.hid hc; clear hc hj
              go_wp2_with (go_at_call 11; refine (frunning HF5.out HON5.out).mono ?_; rw [HC4.out]; rintro e w6 ⟨rfl, hq6⟩; have HF6 := Lib.hid (HF5.out.quiet hq6); clear hq6)
              go_roundw
              case rel => exact ⟨k + 1, _, _, by omega, by go_num, HF6.out, HON5.out⟩
              case measure => simp [intOf]; omega
        · have HON3 := Lib.hid HON2.out
          generalize hs5 : (fun j => if j = y then e2.1 else s j) = s5 at HF3 HON3
          clear hs5
          clear HON2
          by_cases hkm : k < m
          · have dm : decide ((k : Int) < (m : Int)) = true := by simpa using hkm
            obtain ⟨b2, o2, rfl, hb2, hcell2⟩ := A2.out.2 (by omega)
            have hbf : lb[k]? = some false := by
              have q : lb[k]? = some (lb[k]'(by omega)) := List.getElem?_eq_getElem (by omega)
              cases hv : lb[k]'(by omega) with
              | false => rw [q, hv]
              | true => exact (hend ⟨hkm, by rw [q, hv]⟩).elim
            have hce : w3.cell? ⟨b2, o2 + k, none⟩ = some (.bool false) := (HF3.out.desk.below.cell (p := ⟨b2, o2 + k, none⟩) hb2).trans (hcell2 k false hbf)
            clear hcell2 hbf hl2
            go_wp2
            obtain ⟨wo, rfl⟩ : ∃ wo : World, wo = w3 := ⟨_, rfl⟩
            go_loopw [12, 13] (fun v i wx => wx = wo ∧ ∃ j : Nat, j ≤ 4 ∧ i = .int .i64 j ∧ v = .int .i64 (cnt s5 j : Nat)) (fun _ i _ => 4 - (intOf i).toNat)
            case atStart => exact ⟨rfl, 0, by omega, rfl, rfl⟩
            case round =>
              obtain ⟨rfl, j, hj, rfl, rfl⟩ := hrel
              by_cases hj4 : j < 4
              · have dj : decide ((j : Int) < 4) = true := by simp; omega
                have jc := HF3.out.cell hj4
                have jg := lt_of_heap HF3.out.blk
                have j0 : (0 : Int) ≤ (j : Int) := by omega
                have j4 : (j : Int) < 4 := by omega
                have hcl := cnt_le s5 j
                by_cases hp : 0 < s5 j
                · have dp : decide ((0 : Int) < (s5 j : Nat)) = true := by simpa using hp
                  go_wp2
                  go_roundw
                  case rel => exact ⟨by simp, j + 1, by omega, by go_num, by simp [cnt, hp] <;> go_num⟩
                  case measure => simp [intOf]; omega
                · have dp : decide ((0 : Int) < (s5 j : Nat)) = false := by simpa using hp
                  go_wp2
                  go_roundw
                  case rel => exact ⟨by simp, j + 1, by omega, by go_num, by simp [cnt, hp] <;> go_num⟩
                  case measure => simp [intOf]; omega
              · have dj : decide ((j : Int) < 4) = false := by simp; omega
                have hc : cnt s5 4 = cnt s5 j := by rw [show j = 4 by omega]
                have HC4 := Lib.hid hc; clear hc hj
                go_wp2_with (go_at_call 11; refine (frunning HF3.out HON3.out).mono ?_; rw [HC4.out]; rintro e w6 ⟨rfl, hq6⟩; have HF6 := Lib.hid (HF3.out.quiet hq6); clear hq6)
                go_roundw
                case rel => exact ⟨k + 1, _, _, by omega, by go_num, HF6.out, HON3.out⟩
                case measure => simp [intOf]; omega
          · have dm : decide ((k : Int) < (m : Int)) = false := by simp; omega
            go_wp2
            obtain ⟨wo, rfl⟩ : ∃ wo : World, wo = w3 := ⟨_, rfl⟩
            go_loopw [12, 13] (fun v i wx => wx = wo ∧ ∃ j : Nat, j ≤ 4 ∧ i = .int .i64 j ∧ v = .int .i64 (cnt s5 j : Nat)) (fun _ i _ => 4 - (intOf i).toNat)
            case atStart => exact ⟨rfl, 0, by omega, rfl, rfl⟩
            case round =>
              obtain ⟨rfl, j, hj, rfl, rfl⟩ := hrel
              by_cases hj4 : j < 4
              · have dj : decide ((j : Int) < 4) = true := by simp; omega
                have jc := HF3.out.cell hj4
                have jg := lt_of_heap HF3.out.blk
                have j0 : (0 : Int) ≤ (j : Int) := by omega
                have j4 : (j : Int) < 4 := by omega
                have hcl := cnt_le s5 j
                by_cases hp : 0 < s5 j
                · have dp : decide ((0 : Int) < (s5 j : Nat)) = true := by simpa using hp
                  go_wp2
                  go_roundw
                  case rel => exact ⟨by simp, j + 1, by omega, by go_num, by simp [cnt, hp] <;> go_num⟩
                  case measure => simp [intOf]; omega
                · have dp : decide ((0 : Int) < (s5 j : Nat)) = false := by simpa using hp
                  go_wp2
                  go_roundw
                  case rel => exact ⟨by simp, j + 1, by omega, by go_num, by simp [cnt, hp] <;> go_num⟩
                  case measure => simp [intOf]; omega
              · have dj : decide ((j : Int) < 4) = false := by simp; omega
                have hc : cnt s5 4 = cnt s5 j := by rw [show j = 4 by omega]
                have HC4 := Lib.hid hc; clear hc hj
                go_wp2_with (go_at_call 11; refine (frunning HF3.out HON3.out).mono ?_; rw [HC4.out]; rintro e w6 ⟨rfl, hq6⟩; have HF6 := Lib.hid (HF3.out.quiet hq6); clear hq6)
                go_roundw
                case rel => exact ⟨k + 1, _, _, by omega, by go_num, HF6.out, HON3.out⟩
                case measure => simp [intOf]; omega
      · have ds : decide (s y = 0) = false := by simpa using hz
        have de : ((s y : Int) == 0) = false := by simpa using hz
        go_upto_region 11 with (go_at_call 9; refine (fbegin HF0.out HON.out y4 (by omega)).mono ?_; rintro e w2 ⟨id, d2, i, e2, rfl, hid, hid0, hf2, ho2, he2, rfl, hen, hes, hep⟩; have HF2 := Lib.hid hf2; clear hf2; have HON2 := Lib.hid ho2; clear ho2; have HE2 := Lib.hid he2; clear he2; have HEN := Lib.hid hen; clear hen; have HES := Lib.hid hes; clear hes; have HEP := Lib.hid hep; clear hep; have hgs := lt_of_heap HF2.out.blk; have hgc := HF2.out.cell y4; have hgf := blk_frozen HF2.out.blk y; have hid9 : s y = 0 ∨ ((e2.1 : Int) != (s y : Int)) = false := (by rcases Nat.eq_zero_or_pos (s y) with q | q; exact .inl q; exact .inr (by have := hid (by omega); simp [this])); have did := hid9.resolve_left hz; clear hid)
        have HF3 := Lib.hid (HF2.out.set y4 e2.1)
        have HC := Lib.hid hgc; clear hgc hgf hgs hid9
        generalize w2.setCell ⟨g, y, none⟩ (.int .i64 (e2.1 : Nat)) = w3 at HF3 ⊢
        have hl2 := A2.out.1
        by_cases hend : k < m ∧ lb[k]? = some true
        · obtain ⟨hkm, hlb⟩ := hend
          have dm : decide ((k : Int) < (m : Int)) = true := by simpa using hkm
          obtain ⟨b2, o2, rfl, hb2, hcell2⟩ := A2.out.2 (by omega)
          have hce : w3.cell? ⟨b2, o2 + k, none⟩ = some (.bool true) := (HF3.out.desk.below.cell (p := ⟨b2, o2 + k, none⟩) hb2).trans (hcell2 k true hlb)
          clear hcell2 hlb hl2
          go_upto_region 15 with (go_at_call 10; refine (fend HF3.out HON2.out y4 HE2.out HEN.out HES.out HEP.out).mono ?_; rintro e w4 ⟨d4, rfl, hf4, ho4⟩; have HF4 := Lib.hid hf4; clear hf4; have HON4 := Lib.hid ho4; clear ho4; have hgs := lt_of_heap HF4.out.blk; have hgf := blk_frozen HF4.out.blk y; have hgc4 := HF4.out.cell y4)
          have HF5 := Lib.hid (HF4.out.set y4 0)
          clear hgs hgf hgc4
          have es : (fun j => if j = y then 0 else (fun j => if j = y then e2.1 else s j) j) = fun j => if j = y then 0 else s j := by funext j; by_cases hj : j = y <;> simp [hj]
          have HON5 := Lib.hid HON4.out
          rw [es] at HF5 HON5
          clear HF4 HON4 HF3 HON2
          generalize w4.setCell ⟨g, y, none⟩ (.int .i64 (0 : Nat)) = w5 at HF5 ⊢
          generalize hs5 : (fun j => if j = y then 0 else s j) = s5 at HF5 HON5
          clear es hs5
          go_wp2
          obtain ⟨wo, rfl⟩ : ∃ wo : World, wo = w5 := ⟨_, rfl⟩
          go_loopw [12, 13] (fun v i wx => wx = wo ∧ ∃ j : Nat, j ≤ 4 ∧ i = .int .i64 j ∧ v = .int .i64 (cnt s5 j : Nat)) (fun _ i _ => 4 - (intOf i).toNat)
          case atStart => exact ⟨rfl, 0, by omega, rfl, rfl⟩
          case round =>
            obtain ⟨rfl, j, hj, rfl, rfl⟩ := hrel
            by_cases hj4 : j < 4
            · have dj : decide ((j : Int) < 4) = true := by simp; omega
              have jc := HF5.out.cell hj4
              have jg := lt_of_heap HF5.out.blk
              have j0 : (0 : Int) ≤ (j : Int) := by omega
              have j4 : (j : Int) < 4 := by omega
              have hcl := cnt_le s5 j
              by_cases hp : 0 < s5 j
              · have dp : decide ((0 : Int) < (s5 j : Nat)) = true := by simpa using hp
                go_wp2
                go_roundw
                case rel => exact ⟨by simp, j + 1, by omega, by go_num, by simp [cnt, hp] <;> go_num⟩
                case measure => simp [intOf]; omega
              · have dp : decide ((0 : Int) < (s5 j : Nat)) = false := by simpa using hp
                go_wp2
                go_roundw
                case rel => exact ⟨by simp, j + 1, by omega, by go_num, by simp [cnt, hp] <;> go_num⟩
                case measure => simp [intOf]; omega
            · have dj : decide ((j : Int) < 4) = false := by simp; omega
              have hc : cnt s5 4 = cnt s5 j := by rw [show j = 4 by omega]
              have HC4 := Lib.hid hc; clear hc hj
              go_wp2_with (go_at_call 11; refine (frunning HF5.out HON5.out).mono ?_; rw [HC4.out]; rintro e w6 ⟨rfl, hq6⟩; have HF6 := Lib.hid (HF5.out.quiet hq6); clear hq6)
              go_roundw
              case rel => exact ⟨k + 1, _, _, by omega, by go_num, HF6.out, HON5.out⟩
              case measure => simp [intOf]; omega
        · have HON3 := Lib.hid HON2.out
          generalize hs5 : (fun j => if j = y then e2.1 else s j) = s5 at HF3 HON3
          clear hs5
          clear HON2
          by_cases hkm : k < m
          · have dm : decide ((k : Int) < (m : Int)) = true := by simpa using hkm
            obtain ⟨b2, o2, rfl, hb2, hcell2⟩ := A2.out.2 (by omega)
            have hbf : lb[k]? = some false := by
              have q : lb[k]? = some (lb[k]'(by omega)) := List.getElem?_eq_getElem (by omega)
              cases hv : lb[k]'(by omega) with
              | false => rw [q, hv]
              | true => exact (hend ⟨hkm, by rw [q, hv]⟩).elim
            have hce : w3.cell? ⟨b2, o2 + k, none⟩ = some (.bool false) := (HF3.out.desk.below.cell (p := ⟨b2, o2 + k, none⟩) hb2).trans (hcell2 k false hbf)
            clear hcell2 hbf hl2
            go_wp2
            obtain ⟨wo, rfl⟩ : ∃ wo : World, wo = w3 := ⟨_, rfl⟩
            go_loopw [12, 13] (fun v i wx => wx = wo ∧ ∃ j : Nat, j ≤ 4 ∧ i = .int .i64 j ∧ v = .int .i64 (cnt s5 j : Nat)) (fun _ i _ => 4 - (intOf i).toNat)
            case atStart => exact ⟨rfl, 0, by omega, rfl, rfl⟩
            case round =>
              obtain ⟨rfl, j, hj, rfl, rfl⟩ := hrel
              by_cases hj4 : j < 4
              · have dj : decide ((j : Int) < 4) = true := by simp; omega
                have jc := HF3.out.cell hj4
                have jg := lt_of_heap HF3.out.blk
                have j0 : (0 : Int) ≤ (j : Int) := by omega
                have j4 : (j : Int) < 4 := by omega
                have hcl := cnt_le s5 j
                by_cases hp : 0 < s5 j
                · have dp : decide ((0 : Int) < (s5 j : Nat)) = true := by simpa using hp
                  go_wp2
                  go_roundw
                  case rel => exact ⟨by simp, j + 1, by omega, by go_num, by simp [cnt, hp] <;> go_num⟩
                  case measure => simp [intOf]; omega
                · have dp : decide ((0 : Int) < (s5 j : Nat)) = false := by simpa using hp
                  go_wp2
                  go_roundw
                  case rel => exact ⟨by simp, j + 1, by omega, by go_num, by simp [cnt, hp] <;> go_num⟩
                  case measure => simp [intOf]; omega
              · have dj : decide ((j : Int) < 4) = false := by simp; omega
                have hc : cnt s5 4 = cnt s5 j := by rw [show j = 4 by omega]
                have HC4 := Lib.hid hc; clear hc hj
                go_wp2_with (go_at_call 11; refine (frunning HF3.out HON3.out).mono ?_; rw [HC4.out]; rintro e w6 ⟨rfl, hq6⟩; have HF6 := Lib.hid (HF3.out.quiet hq6); clear hq6)
                go_roundw
                case rel => exact ⟨k + 1, _, _, by omega, by go_num, HF6.out, HON3.out⟩
                case measure => simp [intOf]; omega
          · have dm : decide ((k : Int) < (m : Int)) = false := by simp; omega
            go_wp2
            obtain ⟨wo, rfl⟩ : ∃ wo : World, wo = w3 := ⟨_, rfl⟩
            go_loopw [12, 13] (fun v i wx => wx = wo ∧ ∃ j : Nat, j ≤ 4 ∧ i = .int .i64 j ∧ v = .int .i64 (cnt s5 j : Nat)) (fun _ i _ => 4 - (intOf i).toNat)
            case atStart => exact ⟨rfl, 0, by omega, rfl, rfl⟩
            case round =>
              obtain ⟨rfl, j, hj, rfl, rfl⟩ := hrel
              by_cases hj4 : j < 4
              · have dj : decide ((j : Int) < 4) = true := by simp; omega
                have jc := HF3.out.cell hj4
                have jg := lt_of_heap HF3.out.blk
                have j0 : (0 : Int) ≤ (j : Int) := by omega
                have j4 : (j : Int) < 4 := by omega
                have hcl := cnt_le s5 j
                by_cases hp : 0 < s5 j
                · have dp : decide ((0 : Int) < (s5 j : Nat)) = true := by simpa using hp
                  go_wp2
                  go_roundw
                  case rel => exact ⟨by simp, j + 1, by omega, by go_num, by simp [cnt, hp] <;> go_num⟩
                  case measure => simp [intOf]; omega
                · have dp : decide ((0 : Int) < (s5 j : Nat)) = false := by simpa using hp
                  go_wp2
                  go_roundw
                  case rel => exact ⟨by simp, j + 1, by omega, by go_num, by simp [cnt, hp] <;> go_num⟩
                  case measure => simp [intOf]; omega
              · have dj : decide ((j : Int) < 4) = false := by simp; omega
                have hc : cnt s5 4 = cnt s5 j := by rw [show j = 4 by omega]
                have HC4 := Lib.hid hc; clear hc hj
                go_wp2_with (go_at_call 11; refine (frunning HF3.out HON3.out).mono ?_; rw [HC4.out]; rintro e w6 ⟨rfl, hq6⟩; have HF6 := Lib.hid (HF3.out.quiet hq6); clear hq6)
                go_roundw
                case rel => exact ⟨k + 1, _, _, by omega, by go_num, HF6.out, HON3.out⟩
                case measure => simp [intOf]; omega
    · have dd : (decide ((k : Int) < (n : Int)) = false) ∨ (decide ((k : Int) < (n : Int)) = true ∧ decide ((k : Int) < 100) = false) := by
        by_cases h1 : k < n
        · exact .inr ⟨by simpa using h1, by simp; omega⟩
        · exact .inl (by simp; omega)
      rcases dd with dd1 | ⟨dd1, dd2⟩
      · obtain ⟨wb, S, b1, b2, b3, b4⟩ := big_make wr
        have HFB := Lib.hid (HF.out.quiet b4); clear b4
        go_wp2_with (go_at_call 9; refine (fbig HFB.out S b3).mono ?_; rintro e w6 ⟨rfl, hq6⟩; have HF6 := Lib.hid (HFB.out.quiet hq6); clear hq6)
        all_goals go_ret
        all_goals exact ⟨rfl, HF6.out.desk.below⟩
      · obtain ⟨wb, S, b1, b2, b3, b4⟩ := big_make wr
        have HFB := Lib.hid (HF.out.quiet b4); clear b4
        go_wp2_with (go_at_call 9; refine (fbig HFB.out S b3).mono ?_; rintro e w6 ⟨rfl, hq6⟩; have HF6 := Lib.hid (HFB.out.quiet hq6); clear hq6)
        all_goals go_ret
        all_goals exact ⟨rfl, HF6.out.desk.below⟩
theorem once_law (w : World) (A : Option Addr) (n c : Nat) (l : List Int) (hnc : n ≤ c) (hcm : c ≤ maxLen) (_ : A = none → n = 0 ∧ c = 0) (arg : IntsArg .u8 w A n l) (B : Option Addr) (m c2 : Nat) (lb : List Bool) (hmc : m ≤ c2) (hcm2 : c2 ≤ maxLen) (_ : B = none → m = 0 ∧ c2 = 0) (arg2 : BoolsArg w B m lb) :
    Calls Try.prog 3 #[.slice A n c, .slice B m c2] w fun e w' => e = .returned (.bool true) ∧ Below w.heap.size w w' :=
  once_walk w A n c l hnc hcm arg B m c2 lb hmc hcm2 arg2
end Go.Proofs.Ytffockkdiimneaa
