/-
  THE STATEMENT QuotaHolds, its walk: what is reached is never above the limit, and no call of one tenant changes another one's bytes. No conditions.
-/
import Derived.Test.YtnkiibdmpldkmaaNew
import Derived.Test.YtnkiibdmpldkmaaDo
import Derived.Test.YtnkiibdmpldkmaaActs
import Derived.Deep.DeepCutAuto
import Derived.ChangeKeysEq
import Derived.Deep.QuietTactic
import Derived.BigQuiet
namespace Go.Proofs.Ytnkiibdmpldkmaa
open Go.RowKit

theorem cells3 : Try.prog.cellsOf 3 = 1 := by kernel_rfl
theorem inf3 : ∃ i, Try.prog.info? 3 = some i := by
  obtain ⟨i, h, _⟩ := info_parts (P := Try.prog) (e := 3) (z := .int .i64 0) (size := 1) (bytes := 8) (by kernel_rfl)
  exact ⟨i, h⟩
theorem eqin35 (a b c d : Int) (w : World) : (Op.equalIn 10000 35 (.agg #[.int .i64 a, .int .i64 b]) (.agg #[.int .i64 c, .int .i64 d])).run Try.prog w = .ok (a == c && b == d) w := by
  obtain ⟨i, hi⟩ := inf3
  rw [run_equalIn_array (P := Try.prog) (w := w) 9999 (t := 35) (e := 3) (n := 2) _ _ Try.underlying35 hi, cells3]
  have p0 : ∀ (x y : Int) (w : World), (part 3 #[.int .i64 x, .int .i64 y] 0).run Try.prog w = .ok (.int .i64 x) w := fun _ _ _ => by kernel_rfl
  have p1 : ∀ (x y : Int) (w : World), (part 3 #[.int .i64 x, .int .i64 y] 1).run Try.prog w = .ok (.int .i64 y) w := fun _ _ _ => by kernel_rfl
  have hr : List.range 2 = [0, 1] := rfl
  have q : ∀ (x y : Int) (w : World), (Op.equalIn 9999 3 (.int .i64 x) (.int .i64 y)).run Try.prog w = .ok (x == y) w := fun x y w => run_equalIn_int w 9998 3 .i64 .i64 x y Try.underlying3
  rw [hr]
  by_cases h1 : a = c <;> by_cases h2 : b = d <;> simp [Op.eqItems, p0, p1, q, h1, h2]
theorem eg35 (x y : Operand) (xs ys : Array Value) (w : World) : (eqGuard .neq 35 x y (.agg xs) (.agg ys)).run Try.prog w = .ok () w := run_eqGuard_agg (P := Try.prog) (w := w) .neq 35 x y xs ys (by kernel_rfl)
attribute [go_sem] eqin35 eg35
theorem Try.info3 : (Try.prog.info? 3).map (fun i => (i.zero, i.size, i.bytes)) = some (some (.int .i64 0), 1, 8) := by kernel_rfl
def mask (x : Int) : Int := bits .and .i64 x 65535
theorem mask_le (x : Int) : 0 ≤ mask x ∧ mask x ≤ 65535 := by
  obtain ⟨y, h1, h2⟩ : ∃ y : Nat, bits .and .i64 x 65535 = (y : Int) ∧ y ≤ 65535 := and_mask x 65535 (by omega)
  unfold mask
  omega
def masked (l : List Int) (k : Nat) : List Value := ((l.take k).map mask).map (Value.int .i64)
/-- The slice that the statement builds: k limits so far. -/
def Built (w : World) (l : List Int) (v i : Value) (wr : World) : Prop :=
  ∃ k : Nat, i = .int .i64 k ∧ k ≤ l.length ∧ wr.ownsRow w.heap.size 3 1 v k (masked l k) ∧ Below w.heap.size w wr
theorem built_step {w wr w2 : World} {l : List Int} {k : Nat} {x : Int} {v' : Value} (hk : l[k]? = some x) (ho : w2.ownsRow w.heap.size 3 1 v' (k + 1) (masked l k ++ [.int .i64 (mask x)])) (hb : Below w.heap.size w wr) (hb2 : Below w.heap.size wr w2) :
    Built w l v' (.int .i64 ((k : Int) + 1)) w2 := by
  have := (List.getElem?_eq_some_iff.1 hk).1
  refine ⟨k + 1, by simp, by omega, ?_, hb.trans hb2⟩
  unfold masked at *
  rw [take_snoc_int l k x hk]
  simpa using ho
theorem ints_head {w : World} {A : Option Addr} {n : Nat} {l : List Int} (h : IntsArg .i64 w A n l) (h4 : 4 < n) : ∃ b o, A = some ⟨b, o, none⟩ ∧ b < w.heap.size ∧ IntsArg .i64 w (some ⟨b, o, none⟩) 4 (l.take 4) := by
  obtain ⟨h1, h2, h3⟩ := h
  obtain ⟨b, o, hA, hb, hc⟩ := h3 (by omega)
  refine ⟨b, o, hA, hb, by simp; omega, fun x hx => h2 x (List.mem_of_mem_take hx), fun _ => ⟨b, o, rfl, hb, fun i x hx => hc i x ?_⟩⟩
  rw [List.getElem?_take] at hx
  split at hx
  · exact hx
  · cases hx
/-- All limits: the masked ones, and 7. -/
def limitsOf (l : List Int) : List Int := l.map mask ++ [7]
def AllBuilt (w : World) (L : List Int) (v : Value) (n : Nat) (wr : World) : Prop := wr.ownsRow w.heap.size 3 1 v n (L.map (Value.int .i64)) ∧ L.length = n
theorem masked_all (l : List Int) (n : Nat) (h : l.length = n) : masked l n ++ [.int .i64 7] = (limitsOf l).map (Value.int .i64) := by
  unfold masked limitsOf
  rw [List.take_of_length_le (by omega)]
  simp
theorem limits_code (l : List Int) (h : l.length ≤ 4) : newCode (limitsOf l) = 0 := by
  have hm : ∀ x ∈ limitsOf l, 0 ≤ x ∧ x ≤ 65535 := by
    intro x hx
    rcases List.mem_append.1 hx with hx | hx
    · obtain ⟨y, _, rfl⟩ := List.mem_map.1 hx
      exact mask_le y
    · simp at hx; omega
  unfold newCode
  rw [if_neg (by simp [limitsOf]; omega)]
  have h1 : (limitsOf l).any (fun x => decide (x < 0)) = false := by
    rw [List.any_eq_false]; intro x hx; have := hm x hx; simp; omega
  have h2 : (limitsOf l).any (fun x => decide (1099511627776 < x)) = false := by
    rw [List.any_eq_false]; intro x hx; have := hm x hx; simp; omega
  rw [h1, h2]
  rfl
theorem row_ints {w : World} {B n : Nat} {v : Value} {L : List Int} (h : w.ownsRow B 3 1 v n (L.map (Value.int .i64))) (h0 : 0 < n) (hw : ∀ x ∈ L, (Lit.int .i64 x).wf = true) :
    ∃ g c cur, v = .slice (some ⟨g, 0, none⟩) n c ∧ B ≤ g ∧ c ≤ maxLen ∧ w.heap[g]? = some (.cells cur 3 (0, 0)) ∧ L.length = n ∧ (∀ (i : Nat) (x : Int), L[i]? = some x → cur[i]? = some (Value.int .i64 x)) ∧ IntsArg .i64 w (some ⟨g, 0, none⟩) n L := by
  obtain ⟨hlen, h1⟩ := h
  rcases h1 with ⟨_, h1⟩ | ⟨g, c, cur, hv, hg, hh, hnc, hc, hsz, htake⟩
  · omega
  · have hL : L.length = n := by simpa using hlen
    have hat : ∀ (i : Nat) (x : Int), L[i]? = some x → cur[i]? = some (Value.int .i64 x) := by
      intro i x hx
      have hi := (List.getElem?_eq_some_iff.1 hx).1
      have h2 : (cur.toList.take (n * 1))[i]? = some (.int .i64 x) := by rw [htake]; simp [hx]
      rw [List.getElem?_take_of_lt (by omega)] at h2
      simpa using h2
    exact ⟨g, c, cur, hv, hg, hc, hh, hL, hat, hL, hw, fun _ => ⟨g, 0, rfl, lt_of_heap hh, fun i x hx => by rw [blk_cell hh, Nat.zero_add]; exact hat i x hx⟩⟩
theorem wf_small {x : Int} (h0 : 0 ≤ x) (h1 : x ≤ 65535) : (Lit.int .i64 x).wf = true := by
  simp [Lit.wf, IntKind.min, IntKind.max, IntKind.signed, IntKind.bits]
  omega
theorem limits_wf (l : List Int) : ∀ x ∈ limitsOf l, (Lit.int .i64 x).wf = true := by
  intro x hx
  rcases List.mem_append.1 hx with hx | hx
  · obtain ⟨y, _, rfl⟩ := List.mem_map.1 hx
    exact wf_small (mask_le y).1 (mask_le y).2
  · simp at hx; subst hx; decide
/-- What New gives at the limits. -/
theorem new_limits {w : World} {A : Option Addr} {n c : Nat} {L : List Int} (h : IntsArg .i64 w A n L) (hc : newCode L = 0) :
    Calls Try.prog 15 #[.slice A n c] w fun e w' => ∃ p m bs, e = .returned (.tuple #[.pointer (some ⟨p, 0, none⟩), .int .i64 0]) ∧ BookAt w' p m bs (fresh L) ∧ (∀ a ∈ bs, w.heap.size ≤ a) ∧ Quiet w w' := by
  refine (new_any A n c L w h).mono ?_
  rintro e w' ⟨ho, h⟩
  rw [if_pos hc] at h
  obtain ⟨p, m, bs, h1, h2, h3, h4, h5⟩ := h
  exact ⟨p, m, bs, h1, h2, h5, ho⟩

/-- What holds at the head of each round over the acts. -/
structure HRel (w : World) (L : List Int) (p m : Nat) (bs : List Nat) (g : Nat) (cur : Array Value) (S : List Acct) (wr : World) : Prop where
  book : BookAt wr p m bs S
  lims : S.map (·.lim) = L
  row : wr.heap[g]? = some (.cells cur 3 (0, 0))
  below : Below w.heap.size w wr
  mine : ∀ a ∈ bs, w.heap.size ≤ a
/-- The array in which the statement keeps what was, filled as far as j. -/
def Was (wr : World) (gw : Nat) (S : List Acct) (j : Nat) : Prop :=
  ∃ cs : Array Value, wr.heap[gw]? = some (.cells cs 36 (0, 0)) ∧ cs.size = 10 ∧ ∀ (t : Nat) (s : Acct), t < j → S[t]? = some s → cs[t * 2]? = some (.int .i64 s.inn) ∧ cs[t * 2 + 1]? = some (.int .i64 s.pin)

theorem HRel.quiet {w : World} {L : List Int} {p m : Nat} {bs : List Nat} {g : Nat} {cur : Array Value} {S : List Acct} {wr w2 : World} (h : HRel w L p m bs g cur S wr) (ho : Quiet wr w2) : HRel w L p m bs g cur S w2 :=
  ⟨h.book.quiet ho, h.lims, ho.keep h.row (fun x => x), h.below.trans (ho.below h.below.size (fun _ x => x.elim)), h.mine⟩
theorem Was.quiet {wr w2 : World} {gw : Nat} {S : List Acct} {j : Nat} (h : Was wr gw S j) (ho : Quiet wr w2) : Was w2 gw S j := let ⟨cs, h1, h2, h3⟩ := h; ⟨cs, ho.keep h1 (fun x => x), h2, h3⟩
theorem reached_h {w : World} {L : List Int} {p m : Nat} {bs : List Nat} {g : Nat} {cur : Array Value} {S : List Acct} {wr : World} (h : HRel w L p m bs g cur S wr) {t : Nat} {s : Acct} (ht : S[t]? = some s) :
    Calls Try.prog 12 #[.pointer (some ⟨p, 0, none⟩), .int .i64 (t : Int)] wr fun e w' => e = .returned (.int .i64 s.inn) ∧ Quiet wr w' := by
  have := reached_of (of_any (t : Int) h.book)
  unfold look at this
  rw [if_neg (by omega), Int.toNat_natCast, ht] at this
  exact this
theorem pinned_h {w : World} {L : List Int} {p m : Nat} {bs : List Nat} {g : Nat} {cur : Array Value} {S : List Acct} {wr : World} (h : HRel w L p m bs g cur S wr) {t : Nat} {s : Acct} (ht : S[t]? = some s) :
    Calls Try.prog 13 #[.pointer (some ⟨p, 0, none⟩), .int .i64 (t : Int)] wr fun e w' => e = .returned (.int .i64 s.pin) ∧ Quiet wr w' := by
  have := pinned_of (of_any (t : Int) h.book)
  unfold look at this
  rw [if_neg (by omega), Int.toNat_natCast, ht] at this
  exact this
theorem HRel.was {w : World} {L : List Int} {p m : Nat} {bs : List Nat} {g : Nat} {cur : Array Value} {S : List Acct} {wr w2 : World} (h : HRel w L p m bs g cur S wr) {gw : Nat} {cs : Array Value}
    (hg : wr.heap[gw]? = some (.cells cs 36 (0, 0))) (hB : w.heap.size ≤ gw) (ho : Only (· = gw) wr w2) : HRel w L p m bs g cur S w2 := by
  refine ⟨h.book.only ho (blk_ne h.book.ptr hg (by decide)) (fun e => h.book.map.ne_cells hg e.symm) (fun a ha e => ?_), h.lims, ho.keep h.row (blk_ne h.row hg (by decide)), h.below.trans (ho.below h.below.size (fun k hk => by omega)), h.mine⟩
  obtain ⟨s, hs⟩ := h.book.acc ha
  exact blk_ne hs hg (by decide) e
theorem was_step {w6 : World} {gw : Nat} {S : List Acct} {j : Nat} {s : Acct} (h : Was w6 gw S j) (hs : S[j]? = some s) (hj : j < 5) :
    Was ((w6.setCell ⟨gw, j * 2, none⟩ (.int .i64 s.inn)).setCell ⟨gw, j * 2 + 1, none⟩ (.int .i64 s.pin)) gw S (j + 1) := by
  obtain ⟨cs, h1, h2, h3⟩ := h
  refine ⟨_, blk_set (blk_set h1 _ _) _ _, by simp [h2], fun t x ht hx => ?_⟩
  by_cases htj : t = j
  · subst htj
    rw [hs] at hx
    obtain rfl := Option.some.inj hx
    constructor
    · rw [Array.getElem?_setIfInBounds_ne (by omega), Array.getElem?_setIfInBounds_self_of_lt (by omega)]
    · rw [Array.getElem?_setIfInBounds_self_of_lt (by simp; omega)]
  · obtain ⟨e1, e2⟩ := h3 t x (by omega) hx
    constructor
    · rw [Array.getElem?_setIfInBounds_ne (by omega), Array.getElem?_setIfInBounds_ne (by omega), e1]
    · rw [Array.getElem?_setIfInBounds_ne (by omega), Array.getElem?_setIfInBounds_ne (by omega), e2]
theorem only_two (w : World) (g i j : Nat) (u v : Value) : Only (· = g) w ((w.setCell ⟨g, i, none⟩ u).setCell ⟨g, j, none⟩ v) :=
  Only.setCell (S := (· = g)) (Only.setCell (S := (· = g)) (Only.refl _ w) (fun _ => rfl) u) (fun _ => rfl) v
theorem HRel.len {w : World} {L : List Int} {p m : Nat} {bs : List Nat} {g : Nat} {cur : Array Value} {S : List Acct} {wr : World} (h : HRel w L p m bs g cur S wr) : S.length = L.length := by rw [← h.lims]; simp

theorem only_mem {w : World} {L : List Int} {p m : Nat} {bs : List Nat} {g : Nat} {cur : Array Value} {S S8 : List Acct} {wr w2 : World} (h : HRel w L p m bs g cur S wr) (hb : BookAt w2 p m bs S8) (ho : Only (· ∈ bs) wr w2)
    (hl : S8.map (·.lim) = L) : HRel w L p m bs g cur S8 w2 :=
  ⟨hb, hl, ho.keep h.row (fun hm => by obtain ⟨s, hs⟩ := h.book.acc hm; exact blk_ne hs h.row (by decide) rfl), h.below.trans (ho.below h.below.size h.mine), h.mine⟩
theorem Was.mem {w : World} {L : List Int} {p m : Nat} {bs : List Nat} {g : Nat} {cur : Array Value} {S : List Acct} {wr w2 : World} (h : HRel w L p m bs g cur S wr) (ho : Only (· ∈ bs) wr w2) {gw j : Nat} (hW : Was wr gw S j) : Was w2 gw S j := by
  obtain ⟨cs, h1, h2, h3⟩ := hW
  exact ⟨cs, ho.keep h1 (fun hm => by obtain ⟨s, hs⟩ := h.book.acc hm; exact blk_ne hs h1 (by decide) rfl), h2, h3⟩
theorem act_lims {kind : Int} {S : List Acct} {t n : Int} : (act kind S t n).2.map (·.lim) = S.map (·.lim) := by
  unfold act
  split
  · rfl
  · split
    · rfl
    · rename_i s hs
      apply List.ext_getElem?
      intro i
      rw [List.getElem?_map, List.getElem?_map, List.getElem?_set]
      split
      · rename_i hi
        subst hi
        rw [hs]
        split
        · simp [one_lim]
        · rename_i hlt; exact absurd (List.getElem?_eq_some_iff.1 hs).1 hlt
      · rfl
/-- A tenant other than the call's, or a call that is refused: as it was. -/
theorem act_at {kind : Int} {S : List Acct} {t n : Int} {j : Nat} {s s8 : Acct} (hs : S[j]? = some s) (h8 : (act kind S t n).2[j]? = some s8) : s8 = s ∨ ((j : Int) = t ∧ (act kind S t n).1 = 0) := by
  unfold act at h8 ⊢
  by_cases hc : t < 0 ∨ n < 0
  · rw [if_pos hc] at h8 ⊢
    rw [hs] at h8
    exact .inl (Option.some.inj h8).symm
  · rw [if_neg hc] at h8 ⊢
    cases ht : S[t.toNat]? with
    | none =>
      rw [ht] at h8
      rw [hs] at h8
      exact .inl (Option.some.inj h8).symm
    | some x =>
      rw [ht] at h8
      simp only [] at h8 ⊢
      by_cases hj : t.toNat = j
      · subst hj
        rw [hs] at ht
        obtain rfl := Option.some.inj ht
        rw [List.getElem?_set_self (List.getElem?_eq_some_iff.1 hs).1] at h8
        obtain rfl := Option.some.inj h8
        rcases one_code kind s n with h | ⟨_, h⟩
        · exact .inr ⟨by omega, h⟩
        · exact .inl h
      · rw [List.getElem?_set_ne hj, hs] at h8
        exact .inl (Option.some.inj h8).symm
theorem do_h {w : World} {L : List Int} {p m : Nat} {bs : List Nat} {g : Nat} {cur : Array Value} {S : List Acct} {wr : World} (h : HRel w L p m bs g cur S wr) {gw j : Nat} (hW : Was wr gw S j) (K t n : Int) :
    Calls Try.prog 16 #[.pointer (some ⟨p, 0, none⟩), .agg #[.int .i64 K, .int .i64 t, .int .i64 n]] wr fun e w' => ∃ cd S8, e = .returned (.int .i64 cd) ∧ HRel w L p m bs g cur S8 w' ∧ Was w' gw S j ∧ wr.heap.size ≤ w'.heap.size ∧
      ∀ (i : Nat) (s s8 : Acct), S[i]? = some s → S8[i]? = some s8 → s8 = s ∨ ((i : Int) = t ∧ cd = 0) :=
  (do_any K t n h.book).mono fun _ _ ⟨he, hb, ho⟩ => ⟨_, _, he, only_mem h hb ho (act_lims.trans h.lims), hW.mem h ho, ho.size, fun _ _ _ hs h8 => act_at hs h8⟩
/-- The second inner loop. -/
def TRel (w : World) (L : List Int) (p m : Nat) (bs : List Nat) (g : Nat) (cur : Array Value) (S S8 : List Acct) (n gw : Nat) (vj : Value) (w4 : World) : Prop :=
  ∃ j : Nat, vj = .int .i64 j ∧ j ≤ n ∧ HRel w L p m bs g cur S8 w4 ∧ Was w4 gw S n ∧ gw < w4.heap.size
/-- The first inner loop, and the loop over the acts. -/
def JRel (w : World) (L : List Int) (p m : Nat) (bs : List Nat) (g : Nat) (cur : Array Value) (S : List Acct) (n gw : Nat) (vj : Value) (w4 : World) : Prop :=
  ∃ j : Nat, vj = .int .i64 j ∧ j ≤ n + 1 ∧ HRel w L p m bs g cur S w4 ∧ Was w4 gw S j ∧ gw < w4.heap.size
def KRel (w : World) (L : List Int) (p m : Nat) (bs : List Nat) (g : Nat) (cur : Array Value) (vi : Value) (wr : World) : Prop :=
  ∃ (k : Nat) (S : List Acct), vi = .int .i64 k ∧ k ≤ 100 ∧ HRel w L p m bs g cur S wr

theorem charge_end {w : World} {L : List Int} {p m : Nat} {bs : List Nat} {g : Nat} {cur : Array Value} {S : List Acct} {wr : World} (h : HRel w L p m bs g cur S wr) {n : Nat} (hn : S.length = n + 1) :
    Calls Try.prog 7 #[.pointer (some ⟨p, 0, none⟩), .int .i64 ((n : Int) + 1), .int .i64 0] wr fun e w' => e = .returned (.int .i64 2) ∧ Quiet wr w' := by
  have hp : wr.cell? ⟨p, 0, none⟩ = some (.map (some m)) := blk_cell h.book.ptr 0
  have hS : S[((n : Int) + 1).toNat]? = none := by rw [List.getElem?_eq_none_iff]; omega
  exact charge_none p m ((n : Int) + 1) 0 wr hp (lt_of_heap h.book.ptr) (fun o => (h.book.alloc o).look_none (.inr hS))
theorem limit_end {w : World} {L : List Int} {p m : Nat} {bs : List Nat} {g : Nat} {cur : Array Value} {S : List Acct} {wr : World} (h : HRel w L p m bs g cur S wr) {n : Nat} {x : Int} (hn : L[n]? = some x) :
    Calls Try.prog 14 #[.pointer (some ⟨p, 0, none⟩), .int .i64 (n : Int)] wr fun e w' => e = .returned (.int .i64 x) ∧ Quiet wr w' := by
  have := limit_of (of_any (n : Int) h.book)
  rw [← h.lims, List.getElem?_map, Option.map_eq_some_iff] at hn
  obtain ⟨s, hs, rfl⟩ := hn
  unfold look at this
  rw [if_neg (by omega), Int.toNat_natCast, hs] at this
  exact this

set_option maxRecDepth 100000 in
set_option maxHeartbeats 4000000 in
theorem holds_walk (w : World) (A0 : Option Addr) (n0 c0 : Nat) (l0 : List Int) (_ : n0 ≤ c0) (hcm0 : c0 ≤ maxLen) (arg0 : IntsArg .i64 w A0 n0 l0) (A1 : Option Addr) (n1 c1 : Nat) (l1 : List (Int × Int × Int)) (hcm1 : c1 ≤ maxLen) (_ : n1 ≤ c1) (arg1 : StructsArg actCells 3 w A1 n1 l1) :
    Calls Try.prog 4 #[.slice A0 n0 c0, .slice A1 n1 c1] w fun e w' => e = .returned (.bool true) ∧ Below w.heap.size w w' := by
  unfold maxLen at hcm0 hcm1
  have AR1 := Lib.hid arg1; clear arg1
  obtain ⟨i0, hi0, hz0, hz1, hz2⟩ := info_parts Try.info3
  go_enter Try.func4, Try.ntmps4
  go_upto_if 17 with (fail)
  go_cut [0] (fun s wx => ∃ A n c l, s = .slice A n c ∧ n ≤ 4 ∧ IntsArg .i64 w A n l ∧ w = wx)
  case first =>
    by_cases hbig : 4 < n0
    · obtain ⟨b, o, rfl, hb, hA⟩ := ints_head arg0 hbig
      have HA := Lib.hid hA; clear hA arg0
      have hc4 : ¬ c0 = 0 := by omega
      go_wp2
      go_meet
      exact ⟨_, _, _, _, rfl, by omega, HA.out, rfl⟩
    · have HA := Lib.hid arg0; clear arg0
      go_wp2
      go_meet
      exact ⟨_, _, _, _, rfl, by omega, HA.out, rfl⟩
  case rest =>
    obtain ⟨A, n, c, l, rfl, hn4, arg, rfl⟩ := hcut
    clear arg0
    obtain ⟨hl, _, hcell⟩ := arg
    have HL := Lib.hid hl; clear hl
    have HC := Lib.hid hcell; clear hcell
    go_wp2
    go_loopw [5, 6] (fun v i wr => Built w l v i wr) (fun _ i _ => n - (intOf i).toNat)
    case atStart => exact ⟨0, rfl, by omega, World.ownsRow_nil _ _ _ _, Below.refl _ _⟩
    case round =>
      obtain ⟨k, rfl, hk, hown, hbr⟩ := hrel
      by_cases hlt : k < n
      · obtain ⟨b0, o0, rfl, hb0, hcell0⟩ := HC.out (by omega)
        obtain ⟨x, hx⟩ : ∃ x, l[k]? = some x := ⟨_, List.getElem?_eq_getElem (by have := HL.out; omega)⟩
        have hcx : wr.cell? ⟨b0, o0 + k, none⟩ = some (.int .i64 x) := (hbr.cell (p := ⟨b0, o0 + k, none⟩) hb0).trans (hcell0 k x hx)
        have HX := Lib.hid hx; clear hx hcell0
        have hmk : bits .and .i64 x 65535 = mask x := rfl
        go_wp2_with (at_builtin; refine wpList_append_own _ rfl (.tmp 26) (.tmp 32) 31 rfl w.heap.size 3 i0 (.int .i64 0) 1 8 Try.underlying31 hi0 hz0 hz1 hz2 rfl (by decide) _ _ _ rfl (hown.alloc _) ⟨wr.heap.size, 0, none⟩ 1 1 [.int .i64 (mask x)] rfl rfl ?c1 ?c2 ?c3 ?c4 ?c5 ?_)
        case c1 => exact cell_one_new _ _ _
        case c2 => intro u hu; simp at hu; subst hu; rfl
        case c3 => unfold maxLen; omega
        case c4 => omega
        case c5 => have := hbr.size; simp; omega
        intro v' w2 hown' hgrow' _
        go_wp2
        go_roundw
        case rel => exact built_step HX.out hown' hbr (((Below.refl _ _).alloc hbr.size _).grown hgrow' (by simp; have := hbr.size; omega) (fun g hg => (hown.lt g hg).1))
        case measure => simp [intOf]; omega
      · have hkn : n = k := by have := HL.out; omega
        subst hkn
        go_wp2_with (at_builtin; refine wpList_append_own _ rfl (.tmp 34) (.tmp 35) 31 rfl w.heap.size 3 i0 (.int .i64 0) 1 8 Try.underlying31 hi0 hz0 hz1 hz2 rfl (by decide) _ _ _ rfl (hown.alloc _) ⟨wr.heap.size, 0, none⟩ 1 1 [.int .i64 7] rfl rfl ?c1 ?c2 ?c3 ?c4 ?c5 ?_)
        case c1 => exact cell_one_new _ _ _
        case c2 => intro u hu; simp at hu; subst hu; rfl
        case c3 => unfold maxLen; omega
        case c4 => omega
        case c5 => have := hbr.size; simp; omega
        intro v' w2 hown' hgrow' _
        have hbr2 := hbr.trans (((Below.refl _ _).alloc hbr.size _).grown hgrow' (by simp; have := hbr.size; omega) (fun g hg => (hown.lt g hg).1))
        rw [masked_all l n HL.out] at hown'
        obtain ⟨g, c', cur, rfl, hg, hc', hrow, hlen, hat, hints⟩ := row_ints hown' (by omega) (limits_wf l)
        have HLN := Lib.hid hlen; clear hlen
        have HN := Lib.hid (new_limits (c := c') hints (limits_code l (by have := HL.out; omega)))
        unfold maxLen at hc'
        clear hints hown' hown hgrow'
        have HROW := Lib.hid hrow; clear hrow
        have HAT := Lib.hid hat; clear hat
        go_wp2_with (go_at_call 15; refine HN.out.mono ?_; rintro e w3 ⟨p, m, bs, rfl, hbook, hbs, hq⟩; have HB := Lib.hid hbook; clear hbook; have HBS := Lib.hid hbs; clear hbs; have HQ := Lib.hid hq; clear hq)
        have hst : HRel w (limitsOf l) p m bs g cur (fresh (limitsOf l)) w3 :=
          ⟨HB.out, by simp [fresh, Function.comp_def], HQ.out.keep HROW.out (fun x => x), hbr2.trans (HQ.out.below hbr2.size (fun _ x => x.elim)), fun a ha => by have := HBS.out a ha; have := hbr2.size; omega⟩
        go_loopw [9] (fun vi wr => KRel w (limitsOf l) p m bs g cur vi wr) (fun i _ => 100 - (intOf i).toNat)
        case atStart => exact ⟨0, _, rfl, by omega, hst⟩
        case round =>
          obtain ⟨k, S, rfl, hk, hR⟩ := hrel
          clear hst
          by_cases hc : k < n1 ∧ k < 100
          · obtain ⟨h1, h2⟩ := hc
            have hd1 : decide ((k : Int) < (n1 : Int)) = true := by simpa using h1
            have hd2 : decide ((k : Int) < 100) = true := by simp; omega
            obtain ⟨ha1, hcell1⟩ := AR1.out
            obtain ⟨b1, o1, rfl, hb1, hcell1⟩ := hcell1 (by omega)
            obtain ⟨a, ha⟩ : ∃ a, l1[k]? = some a := ⟨_, List.getElem?_eq_getElem (by omega)⟩
            have hca := hcell1 k a ha
            have HCA := Lib.hid hca; clear hca hcell1
            have HA := Lib.hid ha; clear ha ha1
            have hpl := hR.len
            have HPL := Lib.hid hpl; clear hpl
            have HRR := Lib.hid hR; clear hR
            go_wp2
            obtain ⟨wo, rfl⟩ : ∃ wo : World, wo = wr := ⟨_, rfl⟩
            go_loopw [11] (fun vj w4 => JRel w (limitsOf l) p m bs g cur S n wo.heap.size vj w4) (fun vj _ => n + 1 - (intOf vj).toNat)
            case atStart =>
              refine ⟨0, rfl, by omega, HRR.out.quiet ((Only.refl _ _).alloc _), ⟨_, blk_new _ _, rfl, fun t s ht => by omega⟩, by simp⟩
            case round =>
              obtain ⟨j, rfl, hj, hR4, hW4, hlt4⟩ := hrel
              have HR4 := Lib.hid hR4; clear hR4
              have HW4 := Lib.hid hW4; clear hW4
              by_cases hjn : j < n + 1
              · obtain ⟨s, hs⟩ : ∃ s, S[j]? = some s := ⟨_, List.getElem?_eq_getElem (by have := HPL.out; have := HLN.out; omega)⟩
                have HS := Lib.hid hs; clear hs
                go_wp2_with (first | (go_at_call 12; refine (reached_h HR4.out HS.out).mono ?_; rintro e w5 ⟨rfl, ho5⟩; have HR5 := Lib.hid (HR4.out.quiet ho5); have HW5 := Lib.hid (HW4.out.quiet ho5); have hz5 := ho5.size) | (go_at_call 13; refine (pinned_h HR5.out HS.out).mono ?_; rintro e w6 ⟨rfl, ho6⟩; have HR6 := Lib.hid (HR5.out.quiet ho6); have HW6 := Lib.hid (HW5.out.quiet ho6); have hz6 := ho6.size; obtain ⟨cs, hcs, hcz, hcw⟩ := HW6.out; have HCS := Lib.hid hcs; clear hcs; have HCW := Lib.hid hcw; clear hcw; have cc0 : w6.cell? ⟨wo.heap.size, j * 2, none⟩ = some (cs[j * 2]'(by omega)) := (blk_cell HCS.out _).trans (Array.getElem?_eq_getElem (by omega)); have cc1 : w6.cell? ⟨wo.heap.size, j * 2 + 1, none⟩ = some (cs[j * 2 + 1]'(by omega)) := (blk_cell HCS.out _).trans (Array.getElem?_eq_getElem (by omega)); have cf0 : w6.frozen? ⟨wo.heap.size, j * 2, none⟩ = false := blk_frozen HCS.out _; have cf1 : w6.frozen? ⟨wo.heap.size, j * 2 + 1, none⟩ = false := blk_frozen HCS.out _))
                go_roundw
                case rel =>
                  have hrel : JRel w (limitsOf l) p m bs g cur S n wo.heap.size (.int .i64 ((j : Int) + 1)) ((w6.setCell ⟨wo.heap.size, j * 2, none⟩ (.int .i64 s.inn)).setCell ⟨wo.heap.size, j * 2 + 1, none⟩ (.int .i64 s.pin)) :=
                    ⟨j + 1, by go_num, by omega, HR6.out.was HCS.out (by have := HRR.out.below.size; omega) (only_two _ _ _ _ _ _), was_step HW6.out HS.out (by omega), by simp; omega⟩
                  first | exact hrel | ((repeat apply Exists.intro); exact ⟨hrel, rfl⟩)
                case measure => simp [intOf]; omega
              · have hjn : j = n + 1 := by omega
                subst hjn
                obtain ⟨w7, rfl⟩ : ∃ w7 : World, w7 = wr := ⟨_, rfl⟩
                have q0 : w7.cell? ⟨b1, o1 + k * 3, none⟩ = some (.int .i64 a.1) := (HR4.out.below.cell (p := ⟨b1, o1 + k * 3, none⟩) hb1).trans (HCA.out 0 (by omega))
                have q1 : w7.cell? ⟨b1, o1 + k * 3 + 1, none⟩ = some (.int .i64 a.2.1) := (HR4.out.below.cell (p := ⟨b1, o1 + k * 3 + 1, none⟩) hb1).trans (HCA.out 1 (by omega))
                have q2 : w7.cell? ⟨b1, o1 + k * 3 + 2, none⟩ = some (.int .i64 a.2.2) := (HR4.out.below.cell (p := ⟨b1, o1 + k * 3 + 2, none⟩) hb1).trans (HCA.out 2 (by omega))
                have HDO := Lib.hid (do_h HR4.out HW4.out a.1 a.2.1 a.2.2)
                go_wp2_with (go_at_call 16; refine HDO.out.mono ?_; rintro e w8 ⟨cd, S8, rfl, hR8, hW8, hz8, hch⟩; have HR8 := Lib.hid hR8; clear hR8; have HW8 := Lib.hid hW8; clear hW8; have HCH := Lib.hid hch; clear hch)
                have HPL8 := Lib.hid HR8.out.len
                go_loopw [13] (fun vj w9 => TRel w (limitsOf l) p m bs g cur S S8 (n + 1) wo.heap.size vj w9) (fun vj _ => n + 1 - (intOf vj).toNat)
                case atStart => exact ⟨0, rfl, by omega, HR8.out, HW8.out, by omega⟩
                case round =>
                  obtain ⟨w9, rfl⟩ : ∃ w9 : World, w9 = wr := ⟨_, rfl⟩
                  obtain ⟨j, rfl, hj9, hR9, hW9, hlt9⟩ := hrel
                  have HR9 := Lib.hid hR9; clear hR9
                  have HW9 := Lib.hid hW9; clear hW9
                  by_cases hjn9 : j < n + 1
                  · obtain ⟨⟨m0, i0', p0⟩, hs0⟩ : ∃ s, S[j]? = some s := ⟨_, List.getElem?_eq_getElem (by have := HPL.out; have := HLN.out; omega)⟩
                    obtain ⟨⟨m8, i8, p8⟩, hs8⟩ : ∃ s, S8[j]? = some s := ⟨_, List.getElem?_eq_getElem (by have := HPL8.out; have := HLN.out; omega)⟩
                    obtain ⟨f1, f2, f3, f4, f5⟩ := HR8.out.book.fine _ (List.mem_of_getElem? hs8)
                    simp only [] at f1 f2 f3 f4 f5
                    have hlim : (limitsOf l)[j]? = some m8 := by rw [← HR8.out.lims, List.getElem?_map, hs8]; rfl
                    have hcur := HAT.out j m8 hlim
                    have hchj := HCH.out j _ _ hs0 hs8
                    simp only [Acct.mk.injEq] at hchj
                    have hchk : (i8 = i0' ∧ p8 = p0) ∨ ((i8 == i0' && p8 == p0) = false ∧ ((j : Int) = a.2.1 ∧ cd = 0)) := by
                      by_cases he : i8 = i0' ∧ p8 = p0
                      · exact .inl he
                      · refine .inr ⟨by simpa using he, ?_⟩
                        rcases hchj with ⟨_, h1, h2⟩ | h
                        · exact absurd ⟨h1, h2⟩ he
                        · exact h
                    have HS8 := Lib.hid hs8; clear hs8
                    have HS0 := Lib.hid hs0; clear hs0
                    have HCU := Lib.hid hcur; clear hcur hlim hchj
                    have dd1 : decide (i8 < 0) = false := by simp; omega
                    have dd2 : decide (m8 < i8) = false := by simp; omega
                    have dd3 : decide (p8 < 0) = false := by simp; omega
                    have ij0 : (0 : Int) ≤ (j : Int) := by omega
                    have ij5 : (j : Int) < 5 := by omega
                    have ijn : (j : Int) < ((n + 1 : Nat) : Int) := by omega
                    have ijn2 : (j : Int) < (n : Int) + 1 := by omega
                    have ik0 : (0 : Int) ≤ (k : Int) := by omega
                    have ikn : (k : Int) < (n1 : Int) := by omega
                    rcases hchk with ⟨rfl, rfl⟩ | ⟨hne, ht1, rfl⟩
                    · have ee1 : (i8 == i8) = true := by simp
                      have ee2 : (p8 == p8) = true := by simp
                      go_wp2_with (first | (go_at_call 12; refine (reached_h HR9.out HS8.out).mono ?_; rintro e w10 ⟨rfl, ho10⟩; have HR10 := Lib.hid (HR9.out.quiet ho10); have HW10 := Lib.hid (HW9.out.quiet ho10); have hz10 := ho10.size) | (go_at_call 13; refine (pinned_h HR10.out HS8.out).mono ?_; rintro e w11 ⟨rfl, ho11⟩; have HR11 := Lib.hid (HR10.out.quiet ho11); have HW11 := Lib.hid (HW10.out.quiet ho11); have hz11 := ho11.size; obtain ⟨cs, hcs, hcz, hcw⟩ := HW11.out; have HCS := Lib.hid hcs; clear hcs; have HCW := Lib.hid (hcw j _ (by omega) HS0.out); clear hcw; have cc0 : w11.cell? ⟨wo.heap.size, j * 2, none⟩ = some (.int .i64 _) := (blk_cell HCS.out _).trans HCW.out.1; have cc1 : w11.cell? ⟨wo.heap.size, j * 2 + 1, none⟩ = some (.int .i64 _) := (blk_cell HCS.out _).trans HCW.out.2; have cg := (blk_cell HR11.out.row j).trans HCU.out; have hgl := lt_of_heap HR11.out.row; have hgw11 := lt_of_heap HCS.out; have tq1 : w11.cell? ⟨b1, o1 + k * 3 + 1, none⟩ = some (.int .i64 a.2.1) := (HR11.out.below.cell (p := ⟨b1, o1 + k * 3 + 1, none⟩) hb1).trans (HCA.out 1 (by omega)); have hb11 : b1 < w11.heap.size := Nat.lt_of_lt_of_le hb1 HR11.out.below.size))
                      go_quiet (fail)
                      go_wp2
                      go_roundw
                      case rel => exact ⟨j + 1, by go_num, by omega, HR11.out.quiet (((Only.refl _ _).alloc _).drewN _), HW11.out.quiet (((Only.refl _ _).alloc _).drewN _), by simp; omega⟩
                      case measure => simp [intOf]; omega
                    · have hte : (((j : Int)) != a.2.1) = false := by simp [ht1]
                      have HT1 := Lib.hid ht1; clear ht1
                      go_wp2_with (first | (go_at_call 12; refine (reached_h HR9.out HS8.out).mono ?_; rintro e w10 ⟨rfl, ho10⟩; have HR10 := Lib.hid (HR9.out.quiet ho10); have HW10 := Lib.hid (HW9.out.quiet ho10); have hz10 := ho10.size) | (go_at_call 13; refine (pinned_h HR10.out HS8.out).mono ?_; rintro e w11 ⟨rfl, ho11⟩; have HR11 := Lib.hid (HR10.out.quiet ho11); have HW11 := Lib.hid (HW10.out.quiet ho11); have hz11 := ho11.size; obtain ⟨cs, hcs, hcz, hcw⟩ := HW11.out; have HCS := Lib.hid hcs; clear hcs; have HCW := Lib.hid (hcw j _ (by omega) HS0.out); clear hcw; have cc0 : w11.cell? ⟨wo.heap.size, j * 2, none⟩ = some (.int .i64 _) := (blk_cell HCS.out _).trans HCW.out.1; have cc1 : w11.cell? ⟨wo.heap.size, j * 2 + 1, none⟩ = some (.int .i64 _) := (blk_cell HCS.out _).trans HCW.out.2; have cg := (blk_cell HR11.out.row j).trans HCU.out; have hgl := lt_of_heap HR11.out.row; have hgw11 := lt_of_heap HCS.out; have tq1 : w11.cell? ⟨b1, o1 + k * 3 + 1, none⟩ = some (.int .i64 a.2.1) := (HR11.out.below.cell (p := ⟨b1, o1 + k * 3 + 1, none⟩) hb1).trans (HCA.out 1 (by omega)); have hb11 : b1 < w11.heap.size := Nat.lt_of_lt_of_le hb1 HR11.out.below.size))
                      go_quiet (fail)
                      go_wp2
                      go_roundw
                      case rel => exact ⟨j + 1, by go_num, by omega, HR11.out.quiet (((Only.refl _ _).alloc _).drewN _), HW11.out.quiet (((Only.refl _ _).alloc _).drewN _), by simp; omega⟩
                      case measure => simp [intOf]; omega
                  · have hjn9 : j = n + 1 := by omega
                    subst hjn9
                    go_wp2
                    go_roundw
                    case rel => exact ⟨k + 1, S8, by go_num, by omega, HR9.out⟩
                    case measure => simp [intOf]; omega
          · have hstop : n1 ≤ k ∨ (k < n1 ∧ 100 ≤ k) := by omega
            clear hc
            have HRR := Lib.hid hR; clear hR
            have HLL := Lib.hid (show S.length = n + 1 by rw [HRR.out.len]; exact HLN.out)
            have HL7 := Lib.hid (show (limitsOf l)[n]? = some 7 by unfold limitsOf; rw [List.getElem?_append_right (by have := HL.out; simp; omega)]; have := HL.out; simp [this])
            rcases hstop with h1 | ⟨h1, h2⟩
            all_goals
              go_wp2_with (first | (go_at_call 7; refine (charge_end HRR.out HLL.out).mono ?_; rintro e w5 ⟨rfl, ho5⟩; have HR5 := Lib.hid (HRR.out.quiet ho5)) | (go_at_call 14; refine (limit_end HR5.out HL7.out).mono ?_; rintro e w6 ⟨rfl, ho6⟩))
              go_ret
              exact ⟨rfl, (HR5.out.quiet ho6).below⟩
theorem holds_law (w : World) (A0 : Option Addr) (n0 c0 : Nat) (l0 : List Int) (h0 : n0 ≤ c0) (hcm0 : c0 ≤ maxLen) (_ : A0 = none → n0 = 0 ∧ c0 = 0) (arg0 : IntsArg .i64 w A0 n0 l0)
    (A1 : Option Addr) (n1 c1 : Nat) (l1 : List (Int × Int × Int)) (h1 : n1 ≤ c1) (hcm1 : c1 ≤ maxLen) (_ : A1 = none → n1 = 0 ∧ c1 = 0) (arg1 : StructsArg actCells 3 w A1 n1 l1)
    (_ : ∀ x ∈ l1, ActWf w x) :
    Calls Try.prog 4 #[.slice A0 n0 c0, .slice A1 n1 c1] w fun e w' => e = .returned (.bool true) ∧ Below w.heap.size w w' :=
  holds_walk w A0 n0 c0 l0 h0 hcm0 arg0 A1 n1 c1 l1 hcm1 h1 arg1
end Go.Proofs.Ytnkiibdmpldkmaa
