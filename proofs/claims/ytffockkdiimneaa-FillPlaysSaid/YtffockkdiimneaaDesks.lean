/-
  How a desk of the program's lies in memory. No conditions.
-/
import Derived.Test.YtffockkdiimneaaSlices
import Derived.Test.YtffockkdiimneaaMaps
import Derived.Test.YtffockkdiimneaaModel
import Derived.Test.YtffockkdiimneaaNobody
namespace Go.Proofs.Ytffockkdiimneaa
open Go.RowKit Go.MapKept

def byte (b : UInt8) : Value := .int .u8 (b.toNat : Int)
def bytes (l : List UInt8) : List Value := l.map byte
theorem bytes_len (l : List UInt8) : (bytes l).length = l.length := by simp [bytes]
theorem bytes_take (l : List UInt8) (k : Nat) : (bytes l).take k = bytes (l.take k) := by simp [bytes]
theorem bytes_drop (l : List UInt8) (k : Nat) : (bytes l).drop k = bytes (l.drop k) := by simp [bytes]
theorem bytes_one (l : List UInt8) : ∀ u ∈ bytes l, u.oneCell' = true := by
  intro u hu
  obtain ⟨b, _, rfl⟩ := List.mem_map.1 hu
  rfl
def ptr (a : Nat) : Value := .pointer (some ⟨a, 0, none⟩)
/-- Where a fill lies: its block, and the slice of its bytes. -/
structure JMem where
  blk : Nat
  A : Option Addr
  c : Nat
def jobCells (m : JMem) (j : Job) : Array Value := #[.string j.name, .slice m.A j.bytes.length m.c, .int .i64 (j.state : Nat), .int .i64 (j.part : Nat)]
structure JobAt (w : World) (m : JMem) (j : Job) : Prop where
  blk : w.heap[m.blk]? = some (.cells (jobCells m j) 69 (0, 0))
  sl : Sl w 5 m.A j.bytes.length m.c (bytes j.bytes)
  small : j.bytes.length ≤ 1048576
def JOwns (m : JMem) (k : Nat) : Prop := k = m.blk ∨ RowOf m.A k
structure DMem where
  p : Nat
  nm : Nat
  jm : Nat
  ms : List JMem
def nameList (js : List (Nat × Job)) : List (Value × Value) := (runs js).map fun e => (.string e.2.name, .int .i64 (e.1 : Nat))
def jobList (js : List (Nat × Job)) (ms : List JMem) : List (Value × Value) := List.zipWith (fun e m => (.int .i64 (e.1 : Nat), ptr m.blk)) js ms
structure DeskAt (w : World) (D : DMem) (d : Desk) : Prop where
  len : D.ms.length = d.js.length
  small : d.js.length ≤ 1024
  desk : w.heap[D.p]? = some (.cells #[.map (some D.nm), .map (some D.jm), .int .i64 (d.last : Nat)] 48 (0, 0))
  names : SMap w D.nm (nameList d.js)
  jobs : SMap w D.jm (jobList d.js D.ms)
  ne : D.nm ≠ D.jm
  at_ : ∀ (i : Nat) (m : JMem) (e : Nat × Job), D.ms[i]? = some m → d.js[i]? = some e → JobAt w m e.2
  apart : ∀ (i j : Nat) (m m' : JMem), i ≠ j → D.ms[i]? = some m → D.ms[j]? = some m' → ∀ k, JOwns m k → ¬ JOwns m' k
  bound : ∀ e ∈ d.js, 1 ≤ e.1 ∧ e.1 ≤ d.last
  kept : ∀ e ∈ d.js, ¬ (e.2.state ≠ 0 ∧ e.2.part = 0)
def DOwns (D : DMem) (k : Nat) : Prop := k = D.p ∨ k = D.nm ∨ k = D.jm ∨ ∃ m ∈ D.ms, JOwns m k
structure DStep (w w' : World) (D D' : DMem) : Prop where
  same : D'.p = D.p
  only : Only (DOwns D) w w'
  grow : ∀ k, DOwns D' k → DOwns D k ∨ w.heap.size ≤ k

theorem runs_cons (e : Nat × Job) (r : List (Nat × Job)) : runs (e :: r) = if e.2.state = 0 then e :: runs r else runs r := by
  unfold runs
  rw [List.filter_cons]
  by_cases h : e.2.state = 0 <;> simp [h]
theorem kget_jobs (id : Int) : ∀ (js : List (Nat × Job)) (ms : List JMem), ms.length = js.length → kget (.int .i64 id) (jobList js ms) = (findJ id js).bind fun i => (ms[i]?).map fun m => ptr m.blk
  | [], [], _ => rfl
  | e :: r, m :: ms, h => by
    have ih := kget_jobs id r ms (by simpa using h)
    by_cases he : (e.1 : Int) = id
    · simp [jobList, kget, findJ, he]
    · have he2 : ¬ (Value.int .i64 (e.1 : Nat) = Value.int .i64 id) := fun q => he (by injection q)
      simp only [jobList, List.zipWith_cons_cons, kget, findJ, if_neg he, if_neg he2]
      rw [show List.zipWith (fun (e : Nat × Job) (m : JMem) => (Value.int .i64 (e.1 : Nat), ptr m.blk)) r ms = jobList r ms from rfl, ih]
      cases findJ id r <;> simp
theorem kdel_jobs (id : Int) : ∀ (js : List (Nat × Job)) (ms : List JMem) (i : Nat), ms.length = js.length → findJ id js = some i → kdel (.int .i64 id) (jobList js ms) = jobList (js.eraseIdx i) (ms.eraseIdx i)
  | [], [], _, _, h => by simp [findJ] at h
  | e :: r, m :: ms, i, h, hi => by
    by_cases he : (e.1 : Int) = id
    · simp [findJ, he] at hi
      subst hi
      simp [jobList, kdel, he]
    · have he2 : ¬ (Value.int .i64 (e.1 : Nat) = Value.int .i64 id) := fun q => he (by injection q)
      simp only [findJ, if_neg he, Option.map_eq_some_iff] at hi
      obtain ⟨j, hj, rfl⟩ := hi
      have ih := kdel_jobs id r ms j (by simpa using h) hj
      simp only [jobList, List.zipWith_cons_cons, kdel, if_neg he2, List.eraseIdx_cons_succ] at ih ⊢
      rw [ih]
theorem kget_names (name : ByteArray) : ∀ (js : List (Nat × Job)), kget (.string name) (nameList js) = (findN name js).bind fun i => (js[i]?).map fun e => Value.int .i64 (e.1 : Nat)
  | [] => rfl
  | e :: r => by
    have ih := kget_names name r
    unfold nameList at ih ⊢
    rw [runs_cons]
    by_cases hs : e.2.state = 0
    · rw [if_pos hs]
      by_cases he : e.2.name = name
      · simp [kget, findN, he, hs]
      · have he2 : ¬ (Value.string e.2.name = Value.string name) := fun q => he (by injection q)
        simp only [List.map_cons, kget, if_neg he2, findN, he, false_and, if_false]
        rw [ih]
        cases findN name r <;> simp
    · rw [if_neg hs, ih]
      simp only [findN, hs, and_false, if_false]
      cases findN name r <;> simp
theorem kdel_names : ∀ (js : List (Nat × Job)) (i : Nat) (e : Nat × Job) (f : Job → Job), ((nameList js).map (·.1)).Nodup → js[i]? = some e → e.2.state = 0 → (f e.2).state ≠ 0 → kdel (.string e.2.name) (nameList js) = nameList (upd js i f)
  | [], i, e, f, _, h, _, _ => by simp at h
  | a :: r, i, e, f, hn, h, hs, hf => by
    cases i with
    | zero =>
      simp at h
      subst h
      have h1 : upd (a :: r) 0 f = (a.1, f a.2) :: r := by simp [upd]
      rw [h1]
      unfold nameList
      rw [runs_cons, runs_cons, if_pos hs, if_neg hf]
      simp [kdel]
    | succ i =>
      have h1 : upd (a :: r) (i + 1) f = a :: upd r i f := by simp [upd]
      rw [h1]
      simp at h
      unfold nameList at hn ⊢
      rw [runs_cons] at hn ⊢
      rw [runs_cons]
      by_cases ha : a.2.state = 0
      · rw [if_pos ha] at hn ⊢
        rw [if_pos ha]
        simp only [List.map_cons, List.nodup_cons] at hn
        have hne : ¬ (Value.string a.2.name = Value.string e.2.name) := fun q => hn.1 (by
          rw [q, List.map_map]
          refine List.mem_map.2 ⟨e, ?_, rfl⟩
          unfold runs
          rw [List.mem_filter]
          exact ⟨List.mem_of_getElem? h, by simp [hs]⟩)
        simp only [List.map_cons, kdel, if_neg hne]
        have := kdel_names r i e f hn.2 h hs hf
        unfold nameList at this
        rw [this]
      · rw [if_neg ha] at hn ⊢
        rw [if_neg ha]
        exact kdel_names r i e f hn h hs hf
end Go.Proofs.Ytffockkdiimneaa
