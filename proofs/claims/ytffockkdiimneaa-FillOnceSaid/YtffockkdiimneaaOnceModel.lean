/-
  What Begin and End do to the numbers of the fills that run, one for each of four names. No program here. No conditions.
-/
import Derived.Test.YtffockkdiimneaaDesks2
namespace Go.Proofs.Ytffockkdiimneaa
set_option linter.unusedVariables false
set_option linter.unusedSimpArgs false

def nm (k : Nat) : ByteArray := ⟨#[UInt8.ofNat (97 + k)]⟩
theorem nm_inj {j k : Nat} (hj : j < 4) (hk : k < 4) (h : nm j = nm k) : j = k := by
  have h0 : (nm j).data = (nm k).data := by rw [h]
  simp only [nm, Array.mk.injEq, List.cons.injEq, and_true] at h0
  have h1 := congrArg UInt8.toNat h0
  simp at h1
  omega
open Classical in
/-- The fills that run of a name. -/
noncomputable def mine (k : Nat) (js : List (Nat × Job)) : List (Nat × Job) := js.filter fun e => decide (e.2.name = nm k ∧ e.2.state = 0)
theorem mine_app (k : Nat) (js js' : List (Nat × Job)) : mine k (js ++ js') = mine k js ++ mine k js' := by simp [mine]
theorem mine_one {k : Nat} {e : Nat × Job} (h : e.2.name = nm k ∧ e.2.state = 0) : mine k [e] = [e] := by simp [mine, h]
theorem mine_no {k : Nat} {e : Nat × Job} (h : ¬ (e.2.name = nm k ∧ e.2.state = 0)) : mine k [e] = [] := by
  simp only [mine, List.filter_cons, List.filter_nil]
  rw [if_neg (by simpa using h)]
theorem mem_mine {k : Nat} {js : List (Nat × Job)} {e : Nat × Job} : e ∈ mine k js ↔ e ∈ js ∧ e.2.name = nm k ∧ e.2.state = 0 := by simp [mine]
theorem split_at {js : List (Nat × Job)} {i : Nat} {e : Nat × Job} (h : js[i]? = some e) (a : Nat × Job) : js = js.take i ++ ([e] ++ js.drop (i + 1)) ∧ js.set i a = js.take i ++ ([a] ++ js.drop (i + 1)) := by
  have hi := (List.getElem?_eq_some_iff.1 h).1
  constructor
  · have := List.take_append_drop i js
    rw [List.drop_eq_getElem_cons hi, (List.getElem?_eq_some_iff.1 h).2] at this
    simpa using this.symm
  · rw [List.set_eq_take_append_cons_drop, if_pos hi]
    simp
theorem mine_set_same {k : Nat} {js : List (Nat × Job)} {i : Nat} {e a : Nat × Job} (h : js[i]? = some e) (he : ¬ (e.2.name = nm k ∧ e.2.state = 0)) (ha : ¬ (a.2.name = nm k ∧ a.2.state = 0)) : mine k (js.set i a) = mine k js := by
  obtain ⟨h1, h2⟩ := split_at h a
  rw [h2]
  conv => rhs; rw [h1]
  simp only [mine_app, mine_no he, mine_no ha]
theorem one_mid {α : Type} {x y : List α} {e b : α} (h : x ++ ([e] ++ y) = [b]) : x = [] ∧ y = [] ∧ e = b := by
  have hl : (x ++ ([e] ++ y)).length = 1 := by rw [h]; rfl
  simp at hl
  have hx : x = [] := List.length_eq_zero_iff.1 (by omega)
  have hy : y = [] := List.length_eq_zero_iff.1 (by omega)
  subst hx hy
  simp at h
  exact ⟨rfl, rfl, h⟩
theorem mine_set {k : Nat} {js : List (Nat × Job)} {i : Nat} {e a b : Nat × Job} (h : js[i]? = some e) (he : e.2.name = nm k ∧ e.2.state = 0) (hm : mine k js = [b]) : e = b ∧ mine k (js.set i a) = mine k [a] := by
  obtain ⟨h1, h2⟩ := split_at h a
  have h3 : mine k (js.take i ++ ([e] ++ js.drop (i + 1))) = [b] := by rw [← h1]; exact hm
  simp only [mine_app, mine_one he] at h3
  obtain ⟨hx, hy, rfl⟩ := one_mid h3
  refine ⟨rfl, ?_⟩
  rw [h2]
  simp only [mine_app, hx, hy, List.nil_append, List.append_nil]
theorem findN_mine {k : Nat} {js : List (Nat × Job)} : (findN (nm k) js = none → mine k js = []) := by
  intro h
  refine List.eq_nil_iff_forall_not_mem.2 fun e he => ?_
  obtain ⟨h1, h2, h3⟩ := mem_mine.1 he
  have hx : (Value.string e.2.name, Value.int .i64 (e.1 : Nat)) ∈ nameList js := by
    unfold nameList runs
    exact List.mem_map.2 ⟨e, List.mem_filter.2 ⟨h1, by simp [h3]⟩, rfl⟩
  exact findN_none h _ hx (by rw [h2])
theorem runs_total : ∀ {js : List (Nat × Job)}, (∀ e ∈ js, ∃ k, k < 4 ∧ e.2.name = nm k) → (runs js).length = (mine 0 js).length + (mine 1 js).length + (mine 2 js).length + (mine 3 js).length
  | [], _ => rfl
  | a :: r, h => by
    have ih := runs_total (js := r) fun e he => h e (.tail _ he)
    have hc : ∀ k, mine k (a :: r) = mine k [a] ++ mine k r := fun k => mine_app k [a] r
    rw [runs_cons]
    simp only [hc, List.length_append]
    by_cases hs : a.2.state = 0
    · rw [if_pos hs]
      obtain ⟨k, hk, hn⟩ := h a (.head _)
      have hy : (mine k [a]).length = 1 := by rw [mine_one ⟨hn, hs⟩]; rfl
      have hno : ∀ j, j < 4 → j ≠ k → (mine j [a]).length = 0 := fun j hj hjk => by
        rw [mine_no (fun q => hjk (nm_inj hj hk (q.1.symm.trans hn)))]; rfl
      have : k = 0 ∨ k = 1 ∨ k = 2 ∨ k = 3 := by omega
      rcases this with rfl | rfl | rfl | rfl
      · have := hno 1 (by omega) (by omega); have := hno 2 (by omega) (by omega); have := hno 3 (by omega) (by omega); simp only [List.length_cons]; omega
      · have := hno 0 (by omega) (by omega); have := hno 2 (by omega) (by omega); have := hno 3 (by omega) (by omega); simp only [List.length_cons]; omega
      · have := hno 0 (by omega) (by omega); have := hno 1 (by omega) (by omega); have := hno 3 (by omega) (by omega); simp only [List.length_cons]; omega
      · have := hno 0 (by omega) (by omega); have := hno 1 (by omega) (by omega); have := hno 2 (by omega) (by omega); simp only [List.length_cons]; omega
    · rw [if_neg hs]
      have hno : ∀ j, (mine j [a]).length = 0 := fun j => by rw [mine_no (fun q => hs q.2)]; rfl
      have := hno 0; have := hno 1; have := hno 2; have := hno 3
      omega
/-- What the walk keeps: r k is the number of the fill that runs of name k, or 0. -/
structure Once (d : Desk) (r : Nat → Nat) (n : Nat) : Prop where
  names : ∀ e ∈ d.js, ∃ k, k < 4 ∧ e.2.name = nm k
  at_ : ∀ k, k < 4 → (mine k d.js = [] ∧ r k = 0) ∨ ∃ e, mine k d.js = [e] ∧ e.1 = r k ∧ 0 < r k
  len : d.js.length ≤ n
  last : d.last ≤ n
  part : ∀ e ∈ d.js, e.2.part ≤ n
theorem Once.new : Once newDesk (fun _ => 0) 0 := ⟨fun e he => (nomatch he), fun k _ => .inl ⟨rfl, rfl⟩, Nat.le_refl _, Nat.le_refl _, fun e he => (nomatch he)⟩
theorem Once.count {d : Desk} {r : Nat → Nat} {n : Nat} (h : Once d r n) : runningF d = ((if 0 < r 0 then 1 else 0) + (if 0 < r 1 then 1 else 0) + (if 0 < r 2 then 1 else 0) + (if 0 < r 3 then 1 else 0) : Nat) := by
  have hk : ∀ k, k < 4 → (mine k d.js).length = if 0 < r k then 1 else 0 := fun k hk => by
    rcases h.at_ k hk with ⟨h1, h2⟩ | ⟨e, h1, h2, h3⟩
    · rw [h1, h2]; rfl
    · rw [h1, if_pos h3]; rfl
  unfold runningF
  rw [runs_total h.names, hk 0 (by omega), hk 1 (by omega), hk 2 (by omega), hk 3 (by omega)]
theorem Once.begin {d : Desk} {r : Nat → Nat} {n k : Nat} (h : Once d r n) (hk : k < 4) (hn : n < 1024) (hb : ∀ e ∈ d.js, 1 ≤ e.1) : ∃ (id : Nat) (d' : Desk) (i : Nat) (e : Nat × Job), beginF d (nm k) = ((id : Int), decide (r k = 0), 0, d') ∧ (r k ≠ 0 → id = r k) ∧ 0 < id ∧
    Once d' (fun j => if j = k then id else r j) (n + 1) ∧ d'.js[i]? = some e ∧ e.1 = id ∧ e.2.name = nm k ∧ e.2.state = 0 ∧ 1 ≤ e.2.part := by
  have hsz : ¬ 1024 < (nm k).size := by simp [nm, ByteArray.size]
  unfold beginF
  rw [if_neg hsz]
  cases hf : findN (nm k) d.js with
  | none =>
    have hm := findN_mine hf
    have hr : r k = 0 := by
      rcases h.at_ k hk with ⟨_, h2⟩ | ⟨e, h1, _⟩
      · exact h2
      · rw [hm] at h1; cases h1
    simp only []
    rw [if_neg (by have := h.len; omega)]
    refine ⟨d.last + 1, ⟨d.js ++ [(d.last + 1, ⟨nm k, [], 0, 1⟩)], d.last + 1⟩, d.js.length, (d.last + 1, ⟨nm k, [], 0, 1⟩), by simp [hr], fun q => (q hr).elim, by omega, ⟨fun e he => ?_, fun j hj => ?_, ?_, ?_, fun e he => ?_⟩, by simp, rfl, rfl, rfl, Nat.le_refl _⟩
    · rcases List.mem_append.1 he with he | he
      · exact h.names e he
      · rw [List.mem_singleton] at he; subst he; exact ⟨k, hk, rfl⟩
    · by_cases hjk : j = k
      · subst hjk
        refine .inr ⟨(d.last + 1, ⟨nm j, [], 0, 1⟩), ?_, by simp, by simp⟩
        show mine j (d.js ++ [_]) = _
        rw [mine_app, hm, mine_one ⟨rfl, rfl⟩]; rfl
      · simp only [if_neg hjk]
        rw [show mine j (d.js ++ [(d.last + 1, (⟨nm k, [], 0, 1⟩ : Job))]) = mine j d.js by rw [mine_app, mine_no (fun q => hjk (nm_inj hj hk q.1.symm)), List.append_nil]]
        exact h.at_ j hj
    · simp; exact h.len
    · have := h.last; simp; omega
    · rcases List.mem_append.1 he with he | he
      · have := h.part e he; omega
      · rw [List.mem_singleton] at he; subst he; simp
  | some i =>
    obtain ⟨e, he, hen, hes⟩ := findN_some hf
    have hmem := mem_mine.2 ⟨List.mem_of_getElem? he, hen, hes⟩
    obtain ⟨b, hb1, hb2, hb3⟩ : ∃ b, mine k d.js = [b] ∧ b.1 = r k ∧ 0 < r k := by
      rcases h.at_ k hk with ⟨h1, _⟩ | h1
      · rw [h1] at hmem; cases hmem
      · exact h1
    obtain ⟨rfl, hset⟩ := mine_set (a := (e.1, { e.2 with part := e.2.part + 1 })) he ⟨hen, hes⟩ hb1
    have hr : ¬ r k = 0 := by omega
    simp only [he, Option.map_some, Option.getD_some]
    have hil := (List.getElem?_eq_some_iff.1 he).1
    refine ⟨e.1, { d with js := upd d.js i fun j => { j with part := j.part + 1 } }, i, (e.1, { e.2 with part := e.2.part + 1 }), by simp [hr], fun _ => hb2, by omega, ⟨fun x hx => ?_, fun j hj => ?_, ?_, ?_, fun x hx => ?_⟩, by simp only [upd_set he]; simp [hil], rfl, hen, hes, by simp⟩
    · simp only [upd_set he] at hx
      rcases List.mem_or_eq_of_mem_set hx with hx | rfl
      · exact h.names x hx
      · exact ⟨k, hk, hen⟩
    · simp only [upd_set he]
      by_cases hjk : j = k
      · subst hjk
        exact .inr ⟨_, hset.trans (mine_one ⟨hen, hes⟩), by simp, by simp; omega⟩
      · simp only [if_neg hjk]
        rw [mine_set_same (a := (e.1, { e.2 with part := e.2.part + 1 })) he (fun q => hjk (nm_inj hj hk (q.1.symm.trans hen))) (fun q => hjk (nm_inj hj hk (q.1.symm.trans hen)))]
        exact h.at_ j hj
    · simp only [upd_set he, List.length_set]; have := h.len; omega
    · have := h.last; simp; omega
    · simp only [upd_set he] at hx
      rcases List.mem_or_eq_of_mem_set hx with hx | rfl
      · have := h.part x hx; omega
      · have := h.part e (List.mem_of_getElem? he); simp; omega
theorem Once.ended {d : Desk} {r : Nat → Nat} {n k i : Nat} {e : Nat × Job} (h : Once d r n) (hk : k < 4) (he : d.js[i]? = some e) (hen : e.2.name = nm k) (hes : e.2.state = 0) (hp : 1 ≤ e.2.part) (hj : findJ (e.1 : Int) d.js = some i) :
    ∃ d', endF d (e.1 : Int) true = (0, d') ∧ Once d' (fun j => if j = k then 0 else r j) n := by
  have hil := (List.getElem?_eq_some_iff.1 he).1
  have hmem := mem_mine.2 ⟨List.mem_of_getElem? he, hen, hes⟩
  obtain ⟨b, hb1, hb2, hb3⟩ : ∃ b, mine k d.js = [b] ∧ b.1 = r k ∧ 0 < r k := by
    rcases h.at_ k hk with ⟨h1, _⟩ | h1
    · rw [h1] at hmem; cases hmem
    · exact h1
  obtain ⟨rfl, hset⟩ := mine_set (a := (e.1, { e.2 with state := 1 })) he ⟨hen, hes⟩ hb1
  unfold endF
  simp only [hj, he]
  rw [if_neg (by omega)]
  refine ⟨_, rfl, ?_⟩
  have ht : tidy (upd d.js i fun j => { j with state := 1 }) i = d.js.set i (e.1, { e.2 with state := 1 }) := by
    rw [upd_set he]
    unfold tidy
    rw [List.getElem?_set, if_pos rfl, if_pos hil]
    simp only []
    rw [if_neg (by simp; omega)]
  show Once ⟨tidy (upd d.js i fun j => { j with state := 1 }) i, _⟩ _ n
  rw [ht]
  refine ⟨fun x hx => ?_, fun j hj => ?_, by simpa using h.len, h.last, fun x hx => ?_⟩
  · rcases List.mem_or_eq_of_mem_set hx with hx | rfl
    · exact h.names x hx
    · exact ⟨k, hk, hen⟩
  · by_cases hjk : j = k
    · subst hjk
      refine .inl ⟨hset.trans (mine_no (by simp)), by simp⟩
    · simp only [if_neg hjk]
      show (mine j (d.js.set i _) = _ ∧ _) ∨ ∃ e', mine j (d.js.set i _) = _ ∧ _
      rw [mine_set_same (a := (e.1, { e.2 with state := 1 })) he (fun q => hjk (nm_inj hj hk (q.1.symm.trans hen))) (fun q => hjk (nm_inj hj hk (q.1.symm.trans hen)))]
      exact h.at_ j hj
  · rcases List.mem_or_eq_of_mem_set hx with hx | rfl
    · exact h.part x hx
    · exact h.part e (List.mem_of_getElem? he)
end Go.Proofs.Ytffockkdiimneaa
