/-
  TaskOrder's memory: the lists that it builds, and what stands between its calls. No conditions.
-/
import Derived.Test.YtgdjbmfpbihopaaOrderModel
import Derived.Test.YtgdjbmfpbihopaaWordsMem
namespace Go.Proofs.Ytgdjbmfpbihopaa
open Go.RowKit Go.MapKept Go.ChangeShapes Go.WideShapes Go.Deep
set_option linter.unusedVariables false
set_option linter.unusedSimpArgs false

def pk (B : Nat → Bool) (k : Nat) : List Nat := (List.range k).filter B
theorem pk_more (B : Nat → Bool) (k : Nat) : pk B (k + 1) = pk B k ++ if B k then [k] else [] := by
  unfold pk
  rw [List.range_succ, List.filter_append]
  cases h : B k <;> simp [h]
theorem pk_len (B : Nat → Bool) (k : Nat) : (pk B k).length ≤ k := by
  have := List.length_filter_le B (List.range k)
  rwa [List.length_range] at this
theorem pk_up (B : Nat → Bool) (k : Nat) : (pk B k).Pairwise (· < ·) := (List.pairwise_lt_range (n := k)).filter B
theorem pk_lt (B : Nat → Bool) (k : Nat) : ∀ x ∈ pk B k, x < k := fun x hx => List.mem_range.1 (List.mem_filter.1 hx).1
theorem row_ltO {w : World} {base e size n : Nat} {v : Value} {xs : List Value} (h : w.ownsRow base e size v n xs) {b : Nat} (hb : v.ownBlock = some b) : base ≤ b ∧ b < w.heap.size := h.lt b hb
theorem row_shapeO {w : World} {base e size n : Nat} {v : Value} {xs : List Value} (h : w.ownsRow base e size v n xs) : ∃ A c, v = .slice A n c := by
  obtain ⟨_, ⟨h1, h2⟩ | ⟨g, cap, cur, h1, _⟩⟩ := h
  · exact ⟨none, 0, by rw [h1, h2]⟩
  · exact ⟨_, _, h1⟩
/-- Lock k is one of the mask's. -/
def maskB (x : Int) (k : Nat) : Bool := decide (bits .and .i64 (x / 2 ^ k) 1 = 1) || decide (k = 5)
theorem lock_more (B : Nat → Bool) (k : Nat) : opsF (lockL (pk B (k + 1))) = opsF (lockL (pk B k)) ++ if B k then [.int .i64 1, .int .i64 (k : Nat), .int .i64 0] else [] := by
  rw [pk_more]
  cases B k
  · simp [lockL, opsF_app, opsF]
  · simp only [if_true, lockL, List.map_append, opsF_app]; rfl
theorem free_more (B : Nat → Bool) (P : List Op3) (k : Nat) : opsF (P ++ freeL (pk B (k + 1))) = opsF (P ++ freeL (pk B k)) ++ if B k then [.int .i64 2, .int .i64 (k : Nat), .int .i64 0] else [] := by
  rw [pk_more]
  cases B k
  · simp [freeL, opsF_app, opsF]
  · simp only [if_true, freeL, List.map_append, opsF_app, List.append_assoc]; rfl
theorem lockLen (B : Nat → Bool) (k : Nat) : (lockL (pk B k)).length = (pk B k).length := by simp [lockL]
/-- While a list grows: these operations are laid. -/
structure GAt (wo : World) (l : List Op3) (v : Value) (wr : World) : Prop where
  own : wr.ownsRow wo.heap.size 41 3 v l.length (opsF l)
  q : Quiet wo wr
theorem g_start (wo : World) : GAt wo [] (.slice none 0 0) wo := ⟨World.ownsRow_nil _ _ _ _, Only.refl _ _⟩
theorem GAt.next {wo : World} {l m : List Op3} {v : Value} {wr W' w3 : World} (h : GAt wo l v wr) (hq : Quiet wr W') {v' : Value} {n : Nat} {xs : List Value} (hown : w3.ownsRow wo.heap.size 41 3 v' n xs) (hn : n = m.length) (hx : xs = opsF m) (hg : W'.grownBy w3 v.ownBlock) : GAt wo m v' w3 := by
  subst hn hx
  refine ⟨hown, ?_⟩
  have hO : Only (fun j => wo.heap.size ≤ j) W' w3 := (Only.refl _ W').of_grown hg (fun j hj _ => (row_ltO h.own hj).1)
  exact (h.q.trans hq).over hO (fun i hi q => by omega)
theorem GAt.shape {wo : World} {l : List Op3} {v : Value} {wr : World} (h : GAt wo l v wr) : ∃ A c, v = .slice A l.length c := row_shapeO h.own
theorem GAt.shaped {wo : World} {l : List Op3} {A : Option Addr} {c : Nat} {wr : World} {n : Nat} (h : GAt wo l (.slice A n c) wr) (hn : n = l.length) : GAt wo l (.slice A n c) wr := h
theorem GAt.row {wo : World} {l : List Op3} {v : Value} {wr : World} (h : GAt wo l v wr) {n : Nat} (hn : n = l.length) : wr.ownsRow wo.heap.size 41 3 v n (opsF l) := hn ▸ h.own
theorem GAt.read {wo : World} {l : List Op3} {A : Option Addr} {n c : Nat} {wr : World} (h : GAt wo l (.slice A n c) wr) : n = l.length ∧ OpSl wr A n c l := by
  obtain ⟨A', c', e, h1⟩ := own_opsl h.own rfl
  simp only [Value.slice.injEq] at e
  obtain ⟨rfl, rfl, rfl⟩ := e
  exact ⟨rfl, h1⟩
/-! ### the tasks start -/
def tri : Nat → Int
  | 0 => 0
  | n + 1 => tri n + ((n : Int) + 1)
theorem tri_eq : ∀ n, 2 * tri n = (n : Int) * ((n : Int) + 1)
  | 0 => rfl
  | n + 1 => by
    have := tri_eq n
    have e : ((n + 1 : Nat) : Int) = (n : Int) + 1 := by omega
    simp only [tri, e]
    have h2 : ((n : Int) + 1) * ((n : Int) + 1 + 1) = (n : Int) * ((n : Int) + 1) + 2 * ((n : Int) + 1) := by
      rw [Int.mul_add, Int.mul_comm ((n : Int) + 1) ((n : Int) + 1), Int.add_mul ((n : Int)) 1 ((n : Int) + 1)]; omega
    rw [h2, Int.mul_add]; omega
theorem tri_in : ∀ n, n ≤ 12 → 0 ≤ tri n ∧ tri n ≤ 12 * n
  | 0, _ => ⟨by simp [tri], by simp [tri]⟩
  | n + 1, h => by
    have := tri_in n (by omega)
    simp only [tri]
    omega
theorem addOf_lock (k : Int) : ∀ L : List Nat, addOf k (lockL L) = 0
  | [] => rfl
  | x :: L => by
    show (if _ then (0 : Int) else 0) + addOf k (lockL L) = 0
    rw [addOf_lock k L]; split <;> rfl
theorem addOf_free (k : Int) : ∀ L : List Nat, addOf k (freeL L) = 0
  | [] => rfl
  | x :: L => by
    show (if _ then (0 : Int) else 0) + addOf k (freeL L) = 0
    rw [addOf_free k L]; split <;> rfl
theorem addOf_prog (L : List Nat) (b : Int) : addOf 0 (oprog L b) = b := by
  rw [oprog, addOf_app, addOf_app, addOf_lock, addOf_free]
  simp [addOf]
theorem OInv.new : OInv (newW 6 1 []) [] 0 :=
  ⟨rfl, rfl, ⟨0, rfl, by unfold In32; omega, rfl⟩, rfl, fun i z h => by simp at h, fun z h => by simp at h, fun k o => ⟨fun h => (nomatch (show (none : Option Int) = some o from h)), fun ⟨i, z, p, _, h, _⟩ => (nomatch (show (none : Option ZT) = some z from h))⟩⟩
theorem OInv.start {W : Wd} {Z : List ZT} {i : Nat} (h : OInv W Z (tri i)) (hi : Z.length = i) (h12 : i < 12) {L : List Nat} (hu : L.Pairwise (· < ·)) (h6 : ∀ x ∈ L, x < 6) (hl : L.length ≤ 6) :
    startF W (oprog L ((i : Int) + 1)) = ((i : Int), 0, { W with tasks := W.tasks ++ [⟨oprog L ((i : Int) + 1), 0⟩] }) ∧ OInv { W with tasks := W.tasks ++ [⟨oprog L ((i : Int) + 1), 0⟩] } (Z ++ [⟨L, 0⟩]) (tri (i + 1)) := by
  have hlen : W.tasks.length = i := h.len.trans hi
  obtain ⟨y, hw, hy, hS⟩ := h.words
  constructor
  · have hall : (oprog L ((i : Int) + 1)).all (mayB W) = true := by
      rw [List.all_eq_true]
      intro o ho
      have ho' : o ∈ lockL L ∨ o = ⟨5, 0, (i : Int) + 1⟩ ∨ o = ⟨6, 0, 0⟩ ∨ o ∈ freeL L := by
        simpa [oprog] using ho
      rcases ho' with ho | rfl | rfl | ho
      · obtain ⟨x, hx, rfl⟩ := List.mem_map.1 ho
        have := h6 x hx
        show decide (0 ≤ (x : Int) ∧ (x : Int) < W.locks) = true
        rw [h.locks]; simp; omega
      · show decide ((0 : Int) ≤ 0 ∧ (0 : Int) < W.words.length) = true
        rw [hw]; simp
      · show decide ((0 : Int) ≤ 0 ∧ (0 : Int) < W.words.length) = true
        rw [hw]; simp
      · obtain ⟨x, hx, rfl⟩ := List.mem_map.1 ho
        have := h6 x hx
        show decide (0 ≤ (x : Int) ∧ (x : Int) < W.locks) = true
        rw [h.locks]; simp; omega
    unfold startF
    rw [if_neg (by omega), hall, if_neg (by decide), if_neg (by rw [oprog_len]; omega), hlen]
  · refine ⟨h.locks, h.pipes, ⟨y, hw, hy, ?_⟩, ?_, fun j z hz => ?_, fun z hz => ?_, fun k o => (h.hold k o).trans ?_⟩
    · show w32 (y + restOf 0 (W.tasks ++ [_])) = tri (i + 1)
      rw [restOf_app]
      simp only [restOf, addOf_prog]
      rw [Int.add_zero, ← Int.add_assoc, ← w32_add, hS]
      have := tri_in i (by omega)
      show w32 (tri i + ((i : Int) + 1)) = tri i + ((i : Int) + 1)
      exact w32_id (by omega) (by omega)
    · show (W.tasks ++ [_]).length = _
      rw [List.length_append, List.length_append, h.len]; rfl
    · show ∃ x, (W.tasks ++ [_])[j]? = some _
      by_cases hj : j < Z.length
      · rw [List.getElem?_append_left hj] at hz
        rw [List.getElem?_append_left (by rw [h.len]; exact hj)]
        exact h.task j z hz
      · have hj2 := (List.getElem?_eq_some_iff.1 hz).1
        simp only [List.length_append, List.length_cons, List.length_nil] at hj2
        obtain rfl : j = i := by omega
        rw [List.getElem?_append_right (by omega), hi, Nat.sub_self] at hz
        rw [List.getElem?_append_right (by omega), hlen, Nat.sub_self]
        cases hz
        exact ⟨0, rfl⟩
    · rcases List.mem_append.1 hz with hz | hz
      · exact h.ok z hz
      · obtain rfl := List.mem_singleton.1 hz
        exact ⟨hu, h6, Nat.zero_le _⟩
    · constructor
      · rintro ⟨j, z, p, rfl, hz, hp⟩
        exact ⟨j, z, p, rfl, by rw [List.getElem?_append_left (List.getElem?_eq_some_iff.1 hz).1]; exact hz, hp⟩
      · rintro ⟨j, z, p, rfl, hz, hp⟩
        by_cases hj : j < Z.length
        · rw [List.getElem?_append_left hj] at hz
          exact ⟨j, z, p, rfl, hz, hp⟩
        · have hj2 := (List.getElem?_eq_some_iff.1 hz).1
          simp only [List.length_append, List.length_cons, List.length_nil] at hj2
          obtain rfl : j = i := by omega
          rw [List.getElem?_append_right (by omega), hi, Nat.sub_self] at hz
          cases hz
          exact absurd hp.2.1 (Nat.not_lt_zero _)
/-- Between the calls: i tasks. -/
structure OAt (w0 : World) (base p i : Nat) (W : Wd) (Z : List ZT) (wr : World) : Prop where
  rel : TRel base p W wr
  inv : OInv W Z (tri i)
  len : Z.length = i
  q : Quiet w0 wr
  i12 : i ≤ 12
theorem OAt.quiet {w0 : World} {base p i : Nat} {W : Wd} {Z : List ZT} {wr w' : World} (h : OAt w0 base p i W Z wr) (hq : Quiet wr w') : OAt w0 base p i W Z w' := ⟨h.rel.quiet hq, h.inv, h.len, h.q.trans hq, h.i12⟩
theorem o_new {w0 w1 : World} {p : Nat} (h : TRel w0.heap.size p (newW 6 1 []) w1) (hq : Quiet w0 w1) : OAt w0 w0.heap.size p 0 (newW 6 1 []) [] w1 := ⟨h, OInv.new, rfl, hq, by omega⟩
def fullO (B : Nat → Bool) (i : Nat) (k : Nat) : List Op3 := lockL (pk B 6) ++ [⟨5, 0, (i : Int) + 1⟩, ⟨6, 0, 0⟩] ++ freeL (pk B k)
theorem fullO_len (B : Nat → Bool) (i k : Nat) : (fullO B i k).length = (pk B 6).length + 2 + (pk B k).length := by simp [fullO, lockL, freeL]; omega
theorem fullO_six (B : Nat → Bool) (i : Nat) : fullO B i 6 = oprog (pk B 6) ((i : Int) + 1) := by simp [fullO, oprog, List.append_assoc]
theorem fullO_zero (B : Nat → Bool) (i : Nat) : opsF (fullO B i 0) = opsF (lockL (pk B 6)) ++ [.int .i64 5, .int .i64 0, .int .i64 ((i : Int) + 1), .int .i64 6, .int .i64 0, .int .i64 0] := by
  rw [fullO, show freeL (pk B 0) = [] from rfl, List.append_nil, opsF_app]; rfl
theorem o_start {w0 wo wr : World} {base p i : Nat} {W : Wd} {Z : List ZT} (h : OAt w0 base p i W Z wo) (hi : i < 12) (hb : w0.heap.size ≤ base) {B : Nat → Bool} {A : Option Addr} {n c : Nat} (hg : GAt wo (fullO B i 6) (.slice A n c) wr) :
    Calls Try.prog 9 #[.pointer (some ⟨p, 0, none⟩), .slice A n c] wr fun e w' => e = .returned (.tuple #[.int .i64 (i : Int), .int .i64 0]) ∧ ∃ W' Z', OAt w0 base p (i + 1) W' Z' w' ∧ remZ Z' = remZ Z + n := by
  obtain ⟨hn, hos⟩ := hg.read
  obtain ⟨e1, e2⟩ := h.inv.start h.len hi (pk_up B 6) (pk_lt B 6) (pk_len B 6)
  have := tstart (h.rel.quiet hg.q) hos.rd
  rw [fullO_six, e1] at this
  refine this.mono ?_
  rintro e w' ⟨rfl, ht, ho⟩
  refine ⟨rfl, _, _, ⟨ht, e2, ?_, side_quiet (h.q.trans hg.q) hb ho, by omega⟩, ?_⟩
  · rw [List.length_append, h.len]; rfl
  · rw [rem_app, hn, fullO_six, oprog_len]
    simp only [remZ, ZT.all]; omega
/-- A step of any number. -/
theorem o_step {w0 wr : World} {base p i : Nat} {W : Wd} {Z : List ZT} (h : OAt w0 base p i W Z wr) (hb : w0.heap.size ≤ base) (k : Int) :
    Calls Try.prog 10 #[.pointer (some ⟨p, 0, none⟩), .int .i64 k] wr fun e w' => ∃ s c W' Z', e = .returned (.tuple #[.int .i64 s, .int .i64 c]) ∧ OAt w0 base p i W' Z' w' ∧ remZ Z' ≤ remZ Z := by
  obtain ⟨Z', h1, h2, h3, _⟩ := h.inv.step k
  refine (tstep h.rel k).mono ?_
  rintro e w' ⟨rfl, ht, ho⟩
  exact ⟨_, _, _, Z', rfl, ⟨ht, h1, h2.trans h.len, side_quiet h.q hb ho, h.i12⟩, h3⟩
theorem o_rnd {w0 wr : World} {base p i a m : Nat} {W : Wd} {Z : List ZT} (h : OAt w0 base p i W Z wr) (hb : w0.heap.size ≤ base) (hr : ORnd W Z m a) :
    Calls Try.prog 10 #[.pointer (some ⟨p, 0, none⟩), .int .i64 (a : Int)] wr fun e w' => ∃ s c W' Z', e = .returned (.tuple #[.int .i64 s, .int .i64 c]) ∧ OAt w0 base p i W' Z' w' ∧ ORnd W' Z' m (a + 1) := by
  obtain ⟨Z', h1, h2, h3⟩ := h.inv.rnd hr
  refine (tstep h.rel (a : Int)).mono ?_
  rintro e w' ⟨rfl, ht, ho⟩
  exact ⟨_, _, _, Z', rfl, ⟨ht, h1, h2.trans h.len, side_quiet h.q hb ho, h.i12⟩, h3⟩
theorem ORnd.zero {W : Wd} {Z : List ZT} {m : Nat} (h : remZ Z ≤ m) : ORnd W Z m 0 := .inr ⟨h, fun i hi => absurd hi (by omega)⟩
theorem OAt.rnd_end {w0 wr : World} {base p i m : Nat} {W : Wd} {Z : List ZT} (h : OAt w0 base p i W Z wr) (hr : ORnd W Z m i) : remZ Z ≤ m - 1 := h.inv.rnd_end (by rw [h.len]; exact hr)
theorem OAt.done {w0 wr : World} {base p i : Nat} {W : Wd} {Z : List ZT} (h : OAt w0 base p i W Z wr) (hr : remZ Z = 0) : (∀ a : Nat, a < i → stateF W (a : Int) = 3) ∧ wordF W 0 = tri i := by
  obtain ⟨h1, h2⟩ := h.inv.done hr
  rw [h.len] at h1
  exact ⟨h1, h2⟩
/-! ### what one append lays -/
theorem lock_yes {B : Nat → Bool} {k : Nat} (hb : B k = true) : (lockL (pk B k)).length + 1 = (lockL (pk B (k + 1))).length ∧ opsF (lockL (pk B k)) ++ [.int .i64 1, .int .i64 (k : Nat), .int .i64 0] = opsF (lockL (pk B (k + 1))) := by
  rw [lock_more, lockLen, lockLen, pk_more, hb]
  exact ⟨by simp, rfl⟩
theorem lock_no {B : Nat → Bool} {k : Nat} (hb : B k = false) : lockL (pk B (k + 1)) = lockL (pk B k) := by
  rw [pk_more, hb]; simp
theorem full_yes {B : Nat → Bool} {i k : Nat} (hb : B k = true) : (fullO B i k).length + 1 = (fullO B i (k + 1)).length ∧ opsF (fullO B i k) ++ [.int .i64 2, .int .i64 (k : Nat), .int .i64 0] = opsF (fullO B i (k + 1)) := by
  rw [fullO_len, fullO_len]
  have := free_more B (lockL (pk B 6) ++ [⟨5, 0, (i : Int) + 1⟩, ⟨6, 0, 0⟩]) k
  rw [hb] at this
  refine ⟨?_, this.symm⟩
  rw [pk_more B k, hb]; simp; omega
theorem full_no {B : Nat → Bool} {i k : Nat} (hb : B k = false) : fullO B i (k + 1) = fullO B i k := by
  unfold fullO
  rw [pk_more B k, hb]; simp
theorem full_mid (B : Nat → Bool) (i : Nat) : (lockL (pk B 6)).length + 2 = (fullO B i 0).length ∧ opsF (lockL (pk B 6)) ++ [.int .i64 5, .int .i64 0, .int .i64 ((i : Int) + 1), .int .i64 6, .int .i64 0, .int .i64 0] = opsF (fullO B i 0) := by
  rw [fullO_len, lockLen, fullO_zero]
  exact ⟨rfl, rfl⟩
theorem lock_small (B : Nat → Bool) {k : Nat} (hk : k ≤ 6) : (lockL (pk B k)).length ≤ 6 := by
  rw [lockLen]; have := pk_len B k; omega
theorem full_small (B : Nat → Bool) (i : Nat) {k : Nat} (hk : k ≤ 6) : (fullO B i k).length ≤ 14 := by
  rw [fullO_len]; have := pk_len B k; have := pk_len B 6; omega
theorem mask_yes {x : Int} {k : Nat} (h : bits .and .i64 (x / 2 ^ k) 1 = 1) : maskB x k = true := by simp [maskB, h]
theorem mask_five (x : Int) : maskB x 5 = true := by simp [maskB]
theorem mask_no {x : Int} {k : Nat} (h : bits .and .i64 (x / 2 ^ k) 1 = 0) (hk : k ≠ 5) : maskB x k = false := by simp [maskB, h, hk]
theorem mask_bit (x : Int) (k : Nat) : bits .and .i64 (x / 2 ^ k) 1 = 0 ∨ bits .and .i64 (x / 2 ^ k) 1 = 1 := by
  obtain ⟨y, hy, h1⟩ := and_mask (x / 2 ^ k) 1 (by decide)
  have : bits .and .i64 (x / 2 ^ k) 1 = (y : Int) := hy
  omega
end Go.Proofs.Ytgdjbmfpbihopaa
