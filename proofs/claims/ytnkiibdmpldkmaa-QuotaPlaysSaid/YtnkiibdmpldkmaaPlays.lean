/-
  THE STATEMENT QuotaPlays, its walk: a book under any calls has the document's bytes. No conditions.
-/
import Derived.Test.YtnkiibdmpldkmaaRefDo
import Derived.Test.YtnkiibdmpldkmaaDo
import Derived.Test.YtnkiibdmpldkmaaActs
import Derived.Deep.DeepCutAuto
import Derived.Deep.RegionHeld3
namespace Go.Proofs.Ytnkiibdmpldkmaa
open Go.RowKit

theorem newCode_len {l : List Int} (h : newCode l = 0) : l.length ≤ 16 := by
  unfold newCode at h
  by_cases hc : l.length < 1 ∨ 16 < l.length
  · rw [if_pos hc] at h; omega
  · omega
/-- The statement's own copy of the act. -/
def AtBox (w : World) (g : Nat) (K t n : Int) : Prop := w.heap[g]? = some (.cells #[.int .i64 K, .int .i64 t, .int .i64 n] 39 (0, 0))
theorem AtBox.c0 {w : World} {g : Nat} {K t n : Int} (h : AtBox w g K t n) : w.cell? ⟨g, 0, none⟩ = some (.int .i64 K) := blk_cell h 0
theorem AtBox.c1 {w : World} {g : Nat} {K t n : Int} (h : AtBox w g K t n) : w.cell? ⟨g, 1, none⟩ = some (.int .i64 t) := blk_cell h 1
theorem AtBox.c2 {w : World} {g : Nat} {K t n : Int} (h : AtBox w g K t n) : w.cell? ⟨g, 2, none⟩ = some (.int .i64 n) := blk_cell h 2
def badK (K : Int) : Bool := decide (K < 0 ∨ 3 < K)
/-- Both books, one beside the other. -/
structure Both (w : World) (p m : Nat) (bs : List Nat) (q nn c1 g1 g2 g3 : Nat) (S : List Acct) (wr : World) : Prop where
  book : BookAt wr p m bs S
  ref : RefAt wr q nn c1 g1 g2 g3 S
  small : nn ≤ 16
  below : Below w.heap.size w wr
  mine : ∀ a ∈ bs, w.heap.size ≤ a
  m2 : w.heap.size ≤ g2
  m3 : w.heap.size ≤ g3
theorem BookAt.far {w w2 : World} {p m : Nat} {bs : List Nat} {S : List Acct} {F : Nat → Prop} (h : BookAt w p m bs S) (ho : Only F w w2) (hF : ∀ k, F k → ∃ cs t, w.heap[k]? = some (.cells cs t (0, 0)) ∧ t ≠ 25 ∧ t ≠ 51) : BookAt w2 p m bs S := by
  refine h.only ho (fun hk => ?_) (fun hk => ?_) (fun a ha hk => ?_)
  · obtain ⟨cs, t, h1, h2, _⟩ := hF _ hk
    exact blk_ne h1 h.ptr h2 rfl
  · obtain ⟨cs, t, h1, _, _⟩ := hF _ hk
    exact h.map.ne_cells h1 rfl
  · obtain ⟨cs, t, h1, _, h2⟩ := hF _ hk
    obtain ⟨s, hs⟩ := h.acc ha
    exact blk_ne h1 hs h2 rfl
theorem RefAt.far {w w2 : World} {q nn c1 g1 g2 g3 : Nat} {S : List Acct} {F : Nat → Prop} (h : RefAt w q nn c1 g1 g2 g3 S) (ho : Only F w w2) (hF : ∀ k, F k → ∃ cs t, w.heap[k]? = some (.cells cs t (0, 0)) ∧ t ≠ 46 ∧ t ≠ 3) : RefAt w2 q nn c1 g1 g2 g3 S := by
  have h3 : ∀ {g : Nat} {xs : List Int}, RowAt w g xs → ¬ F g := by
    rintro g xs ⟨cur, hc, _⟩ hk
    obtain ⟨cs, t, h1, _, h2⟩ := hF _ hk
    exact blk_ne h1 hc h2 rfl
  refine ⟨ho.keep h.ptr (fun hk => ?_), h.len, h.lims.only ho (h3 h.lims), h.inns.only ho (h3 h.inns), h.pins.only ho (h3 h.pins), h.n12, h.n13, h.n23⟩
  obtain ⟨cs, t, h1, h2, _⟩ := hF _ hk
  exact blk_ne h1 h.ptr h2 rfl
theorem Both.quiet {w : World} {p m : Nat} {bs : List Nat} {q nn c1 g1 g2 g3 : Nat} {S : List Acct} {wr w2 : World} (h : Both w p m bs q nn c1 g1 g2 g3 S wr) (ho : Quiet wr w2) : Both w p m bs q nn c1 g1 g2 g3 S w2 :=
  ⟨h.book.quiet ho, h.ref.far ho (fun _ x => x.elim), h.small, h.below.trans (ho.below h.below.size (fun _ x => x.elim)), h.mine, h.m2, h.m3⟩
theorem Both.len {w : World} {p m : Nat} {bs : List Nat} {q nn c1 g1 g2 g3 : Nat} {S : List Acct} {wr : World} (h : Both w p m bs q nn c1 g1 g2 g3 S wr) : S.length = nn := h.ref.len
/-- Behind the first of the two calls. -/
structure Half (w : World) (p m : Nat) (bs : List Nat) (q nn c1 g1 g2 g3 : Nat) (S S' : List Acct) (wr : World) : Prop where
  book : BookAt wr p m bs S'
  ref : RefAt wr q nn c1 g1 g2 g3 S
  fine : ∀ s ∈ S, Fine s
  small : nn ≤ 16
  below : Below w.heap.size w wr
  mine : ∀ a ∈ bs, w.heap.size ≤ a
  m2 : w.heap.size ≤ g2
  m3 : w.heap.size ≤ g3
theorem AtBox.quiet {w w2 : World} {g : Nat} {K t n : Int} (h : AtBox w g K t n) (ho : Quiet w w2) : AtBox w2 g K t n := ho.keep h (fun x => x)
theorem do_b {w : World} {p m : Nat} {bs : List Nat} {q nn c1 g1 g2 g3 : Nat} {S : List Acct} {wr : World} {g : Nat} {K t n : Int} (h : Both w p m bs q nn c1 g1 g2 g3 S wr) (hx : AtBox wr g K t n) :
    Calls Try.prog 16 #[.pointer (some ⟨p, 0, none⟩), .agg #[.int .i64 K, .int .i64 t, .int .i64 n]] wr fun e w' => e = .returned (.int .i64 (act K S t n).1) ∧ Half w p m bs q nn c1 g1 g2 g3 S (act K S t n).2 w' ∧ AtBox w' g K t n := by
  refine (do_any K t n h.book).mono fun e w' ⟨he, hb, ho⟩ => ⟨he, ⟨hb, h.ref.far ho (fun k hk => ?_), h.book.fine, h.small, h.below.trans (ho.below h.below.size h.mine), h.mine, h.m2, h.m3⟩, ho.keep hx (fun hk => ?_)⟩
  · obtain ⟨s, hs⟩ := h.book.acc hk
    exact ⟨_, _, hs, by decide, by decide⟩
  · obtain ⟨s, hs⟩ := h.book.acc hk
    exact blk_ne hs hx (by decide) rfl
theorem rdo_b {w : World} {p m : Nat} {bs : List Nat} {q nn c1 g1 g2 g3 : Nat} {S S' : List Acct} {wr : World} {g : Nat} {K t n : Int} (h : Half w p m bs q nn c1 g1 g2 g3 S S' wr) (hx : AtBox wr g K t n) (h0 : 0 ≤ K) (h3 : K ≤ 3)  (hS : S' = (act K S t n).2) :
    Calls Try.prog 18 #[.pointer (some ⟨q, 0, none⟩), .int .i64 K, .int .i64 t, .int .i64 n] wr fun e w' => e = .returned (.int .i64 (act K S t n).1) ∧ Both w p m bs q nn c1 g1 g2 g3 (act K S t n).2 w' ∧ AtBox w' g K t n := by
  subst hS
  have hF : ∀ k, (k = g2 ∨ k = g3) → ∃ cs t, wr.heap[k]? = some (.cells cs t (0, 0)) ∧ t = 3 := by
    rintro k (rfl | rfl)
    · obtain ⟨cur, hc, _⟩ := h.ref.inns; exact ⟨_, _, hc, rfl⟩
    · obtain ⟨cur, hc, _⟩ := h.ref.pins; exact ⟨_, _, hc, rfl⟩
  refine (rdo_any K t n ⟨h0, h3⟩ h.ref h.fine h.small).mono fun e w' ⟨he, hr, ho⟩ => ⟨he, ⟨h.book.far ho (fun k hk => ?_), hr, h.small, h.below.trans (ho.below h.below.size (fun k hk => ?_)), h.mine, h.m2, h.m3⟩, ho.keep hx (fun hk => ?_)⟩
  · obtain ⟨cs, t, hc, rfl⟩ := hF k hk
    exact ⟨_, _, hc, by decide, by decide⟩
  · rcases hk with rfl | rfl
    · exact h.m2
    · exact h.m3
  · obtain ⟨cs, t, hc, rfl⟩ := hF _ hk
    exact blk_ne hc hx (by decide) rfl
theorem reached_b {w : World} {p m : Nat} {bs : List Nat} {q nn c1 g1 g2 g3 : Nat} {S : List Acct} {wr : World} {t : Int} {s : Acct} (h : Both w p m bs q nn c1 g1 g2 g3 S wr) (hl : look S t = s) :
    Calls Try.prog 12 #[.pointer (some ⟨p, 0, none⟩), .int .i64 t] wr fun e w' => e = .returned (.int .i64 s.inn) ∧ Quiet wr w' := by subst hl; exact reached_of (of_any t h.book)
theorem pinned_b {w : World} {p m : Nat} {bs : List Nat} {q nn c1 g1 g2 g3 : Nat} {S : List Acct} {wr : World} {t : Int} {s : Acct} (h : Both w p m bs q nn c1 g1 g2 g3 S wr) (hl : look S t = s) :
    Calls Try.prog 13 #[.pointer (some ⟨p, 0, none⟩), .int .i64 t] wr fun e w' => e = .returned (.int .i64 s.pin) ∧ Quiet wr w' := by subst hl; exact pinned_of (of_any t h.book)
theorem limit_b {w : World} {p m : Nat} {bs : List Nat} {q nn c1 g1 g2 g3 : Nat} {S : List Acct} {wr : World} {t : Int} {s : Acct} (h : Both w p m bs q nn c1 g1 g2 g3 S wr) (hl : look S t = s) :
    Calls Try.prog 14 #[.pointer (some ⟨p, 0, none⟩), .int .i64 t] wr fun e w' => e = .returned (.int .i64 s.lim) ∧ Quiet wr w' := by subst hl; exact limit_of (of_any t h.book)
theorem fits_b {w : World} {p m : Nat} {bs : List Nat} {q nn c1 g1 g2 g3 : Nat} {S : List Acct} {wr : World} {t : Nat} {n : Int} {s : Acct} {b : Bool} (h : Both w p m bs q nn c1 g1 g2 g3 S wr) (hs : S[t]? = some s) (hb : fitsB s n = b) :
    Calls Try.prog 11 #[.pointer (some ⟨p, 0, none⟩), .int .i64 (t : Int), .int .i64 n] wr fun e w' => e = .returned (.bool b) ∧ Quiet wr w' := by
  subst hb
  exact fits_in (t : Int) n h.book (by omega) (by rw [Int.toNat_natCast]; exact hs)
def PRel (w : World) (p m : Nat) (bs : List Nat) (q nn c1 g1 g2 g3 : Nat) (vi : Value) (wr : World) : Prop :=
  ∃ (k : Nat) (S : List Acct), vi = .int .i64 k ∧ k ≤ 200 ∧ Both w p m bs q nn c1 g1 g2 g3 S wr

set_option maxRecDepth 100000 in
set_option maxHeartbeats 4000000 in
theorem plays_walk (w : World) (A0 : Option Addr) (n0 c0 : Nat) (l0 : List Int) (hcm0 : c0 ≤ maxLen) (arg0 : IntsArg .i64 w A0 n0 l0)
    (A1 : Option Addr) (n1 c1 : Nat) (l1 : List (Int × Int × Int)) (h1 : n1 ≤ c1) (hcm1 : c1 ≤ maxLen) (arg1 : StructsArg actCells 3 w A1 n1 l1) (hwf1 : ∀ x ∈ l1, ActWf w x) :
    Calls Try.prog 5 #[.slice A0 n0 c0, .slice A1 n1 c1] w fun e w' => e = .returned (.bool true) ∧ Below w.heap.size w w' := by
  unfold maxLen at hcm0 hcm1
  have AR0 := Lib.hid arg0; clear arg0
  have AR1 := Lib.hid arg1; clear arg1
  have HN := Lib.hid (new_any A0 n0 c0 l0 w AR0.out)
  by_cases hcode : newCode l0 = 0
  · have HC := Lib.hid hcode; clear hcode
    go_enter Try.func5, Try.ntmps5
    go_wp2_with (first | (go_at_call 15; refine HN.out.mono ?_; rintro e w1 ⟨hq1, hpost⟩; rw [if_pos HC.out] at hpost; obtain ⟨p, m, bs, rfl, hbook, hp, hm, hbs⟩ := hpost; have HB := Lib.hid hbook; clear hbook; have HBS := Lib.hid hbs; clear hbs) | (go_at_call 17; refine (rnew_any A0 n0 c0 l0 _ (AR0.out.kept (hq1.below (Nat.le_refl _) (fun _ x => x.elim)))).mono ?_; rintro e w2 ⟨hq2, hpost⟩; rw [if_pos HC.out] at hpost; obtain ⟨q, nn, c1', g1, g2, g3, rfl, href, hq, hg1, hg2, hg3⟩ := hpost; have HR := Lib.hid href; clear href))
    have hnn : nn ≤ 16 := by
      have h1 := HR.out.len
      have h2 := newCode_len HC.out
      simp [fresh] at h1
      omega
    have hst : Both w p m bs q nn c1' g1 g2 g3 (fresh l0) w2 := by
      have hb1 : Below w.heap.size w w1 := hq1.below (Nat.le_refl _) (fun _ x => x.elim)
      exact ⟨HB.out.quiet hq2, HR.out, hnn, hb1.trans (hq2.below hb1.size (fun _ x => x.elim)), HBS.out, by have := hb1.size; omega, by have := hb1.size; omega⟩
    go_loopw [9] (fun vi wr => PRel w p m bs q nn c1' g1 g2 g3 vi wr) (fun i _ => 200 - (intOf i).toNat)
    case atStart => exact ⟨0, _, rfl, by omega, hst⟩
    case round =>
      obtain ⟨k, S, rfl, hk, hR⟩ := hrel
      clear hst
      have HBO := Lib.hid hR; clear hR
      by_cases hc : k < n1 ∧ k < 200
      · obtain ⟨h1', h2'⟩ := hc
        have hd1 : decide ((k : Int) < (n1 : Int)) = true := by simpa using h1'
        have hd2 : decide ((k : Int) < 200) = true := by simp; omega
        obtain ⟨ha1, hcell1⟩ := AR1.out
        obtain ⟨b1, o1, rfl, hb1, hcell1⟩ := hcell1 (by omega)
        obtain ⟨⟨K, t, n⟩, ha⟩ : ∃ a, l1[k]? = some a := ⟨_, List.getElem?_eq_getElem (by omega)⟩
        have hca := hcell1 k _ ha
        have q0 : wr.cell? ⟨b1, o1 + k * 3, none⟩ = some (.int .i64 K) := (HBO.out.below.cell (p := ⟨b1, o1 + k * 3, none⟩) hb1).trans (hca 0 (by omega))
        have q1 : wr.cell? ⟨b1, o1 + k * 3 + 1, none⟩ = some (.int .i64 t) := (HBO.out.below.cell (p := ⟨b1, o1 + k * 3 + 1, none⟩) hb1).trans (hca 1 (by omega))
        have q2 : wr.cell? ⟨b1, o1 + k * 3 + 2, none⟩ = some (.int .i64 n) := (HBO.out.below.cell (p := ⟨b1, o1 + k * 3 + 2, none⟩) hb1).trans (hca 2 (by omega))
        obtain ⟨_, wt, wn⟩ := hwf1 _ (List.mem_of_getElem? ha)
        have wt := wf_i64 wt
        have wn := wf_i64 wn
        simp only [] at wt wn
        clear hca hcell1 ha ha1
        go_upto_region 11 with (fail)
        go_cut [10, 65] (fun s10 s65 wx => s10 = .pointer (some ⟨wr.heap.size, 0, none⟩) ∧ s65 = .bool (badK K) ∧ wx = wr.alloc (.cells #[.int .i64 K, .int .i64 t, .int .i64 n] 39))
        case first =>
          rcases (show K < 0 ∨ (0 ≤ K ∧ 3 < K) ∨ (0 ≤ K ∧ K ≤ 3) by omega) with h | ⟨h, h'⟩ | ⟨h, h'⟩
          all_goals
            go_wp2
            go_meet
            exact ⟨rfl, congrArg Value.bool (by unfold badK; first | (simp; done) | (simp; omega)), rfl⟩
        case rest =>
          obtain ⟨rfl, rfl, rfl⟩ := hcut
          go_upto_if 65 with (fail)
          go_cut [] (fun wx => ∃ K', 0 ≤ K' ∧ K' ≤ 3 ∧ AtBox wx wr.heap.size K' t n ∧ Both w p m bs q nn c1' g1 g2 g3 S wx)
          case first =>
            cases hb : badK K with
            | true =>
              go_wp2
              go_meet
              exact ⟨3, by omega, by omega, blk_new _ _, HBO.out.quiet ((Only.refl _ _).alloc _)⟩
            | false =>
              have hK : 0 ≤ K ∧ K ≤ 3 := by unfold badK at hb; simp at hb; omega
              go_wp2
              go_meet
              exact ⟨K, hK.1, hK.2, blk_new _ _, HBO.out.quiet ((Only.refl _ _).alloc _)⟩
          case rest =>
            obtain ⟨K', hK0, hK3, hbox, hB⟩ := hcut
            have HBX := Lib.hid hbox
            have HBB := Lib.hid hB; clear hB
            have x0 := blk_cell hbox 0
            have x1 := blk_cell hbox 1
            have x2 := blk_cell hbox 2
            clear hbox
            simp only [List.getElem?_toArray, List.getElem?_cons_zero, List.getElem?_cons_succ] at x0 x1 x2
            go_upto_region 13 with (fail)
            go_cut [78] (fun s78 wx => s78 = .bool false ∧ AtBox wx wr.heap.size K' t n ∧ Both w p m bs q nn c1' g1 g2 g3 (act K' S t n).2 wx)
            case first =>
              go_region_held3 (fun w' => w'.cell? ⟨wr.heap.size, 0, none⟩ = some (.int .i64 K') ∧ w'.cell? ⟨wr.heap.size, 1, none⟩ = some (.int .i64 t) ∧ w'.cell? ⟨wr.heap.size, 2, none⟩ = some (.int .i64 n)) (first | exact ⟨x0, x1, x2⟩ | exact ⟨y0, y1, y2⟩ | exact ⟨z0, z1, z2⟩)
                (first
                  | (go_at_call 16; refine (do_b (HBB.out.quiet (by repeat (first | exact Only.refl _ _ | refine Only.drewN ?_ _ | refine Only.drew ?_))) (HBX.out.quiet (by repeat (first | exact Only.refl _ _ | refine Only.drewN ?_ _ | refine Only.drew ?_)))).mono ?_; rintro e w8 ⟨rfl, hH, hbox8⟩; have HH := Lib.hid hH; clear hH; have HX8 := Lib.hid hbox8; have y0 := hbox8.c0; have y1 := hbox8.c1; have y2 := hbox8.c2; clear hbox8)
                  | (go_at_call 18; refine (rdo_b HH.out HX8.out hK0 hK3 rfl).mono ?_; rintro e w9 ⟨rfl, hH9, hbox9⟩; have HH9 := Lib.hid hH9; clear hH9; have HX9 := Lib.hid hbox9; have z0 := hbox9.c0; have z1 := hbox9.c1; have z2 := hbox9.c2; clear hbox9))
              all_goals
                go_wp2
                go_meet
                exact ⟨rfl, HX9.out, HH9.out⟩
            case rest =>
              obtain ⟨rfl, hbx2, hB2⟩ := hcut
              generalize (act K' S t n).2 = S2 at hB2
              have HX2 := Lib.hid hbx2
              have v0 := hbx2.c0
              have v1 := hbx2.c1
              have v2 := hbx2.c2
              have lx := lt_of_heap hbx2
              clear hbx2 x0 x1 x2
              have p0 := blk_cell hB2.ref.ptr 0
              have p1 := blk_cell hB2.ref.ptr 1
              have p2 := blk_cell hB2.ref.ptr 2
              simp only [List.getElem?_toArray, List.getElem?_cons_zero, List.getElem?_cons_succ] at p0 p1 p2
              have lq := lt_of_heap hB2.ref.ptr
              have hlen := hB2.len
              have HB2 := Lib.hid hB2; clear hB2
              have HLEN := Lib.hid hlen; clear hlen
              by_cases hin : 0 ≤ t ∧ t < (nn : Int)
              · obtain ⟨tn, rfl⟩ : ∃ tn : Nat, t = (tn : Int) := ⟨t.toNat, by omega⟩
                have htn : tn < nn := by omega
                obtain ⟨⟨lim, inn, pin⟩, hs⟩ : ∃ s, S2[tn]? = some s := ⟨_, List.getElem?_eq_getElem (by have := HLEN.out; omega)⟩
                obtain ⟨f1, f2, f3, f4, f5⟩ := HB2.out.book.fine _ (List.mem_of_getElem? hs)
                simp only [] at f1 f2 f3 f4 f5
                have r1 := HB2.out.ref.lims.cell (i := tn) (x := lim) (by rw [List.getElem?_map, hs]; rfl)
                have r2 := HB2.out.ref.inns.cell (i := tn) (x := inn) (by rw [List.getElem?_map, hs]; rfl)
                have r3 := HB2.out.ref.pins.cell (i := tn) (x := pin) (by rw [List.getElem?_map, hs]; rfl)
                have HLK := Lib.hid (show look S2 (tn : Int) = ⟨lim, inn, pin⟩ by unfold look; rw [if_neg (by omega), Int.toNat_natCast, hs]; rfl)
                have HS := Lib.hid hs; clear hs
                have t0 : (0 : Int) ≤ (tn : Int) := by omega
                have t1 : (tn : Int) < (nn : Int) := by omega
                have t2 : decide ((0 : Int) ≤ (tn : Int)) = true := by simp
                clear hin
                rcases (show n < 0 ∨ (0 ≤ n ∧ n ≤ lim - inn) ∨ (0 ≤ n ∧ lim - inn < n) by omega) with hn | ⟨hn, hn'⟩ | ⟨hn, hn'⟩
                all_goals
                  first | have HF := Lib.hid (show fitsB ⟨lim, inn, pin⟩ n = true by unfold fitsB; simp; omega) | have HF := Lib.hid (show fitsB ⟨lim, inn, pin⟩ n = false by unfold fitsB; simp; omega)
                  go_wp2
                  go_quiet (fail)
                  have HB2d := Lib.hid (HB2.out.quiet ((Only.refl _ wc).drewN nq))
                  have HX2d := Lib.hid (HX2.out.quiet ((Only.refl _ wc).drewN nq))
                  go_wp2_with (first | (go_at_call 12; refine (reached_b HB2d.out HLK.out).mono ?_; rintro e w3 ⟨rfl, ho3⟩; have HB3 := Lib.hid (HB2d.out.quiet ho3); have u0 := (HX2d.out.quiet ho3).c2; have hl3 := lt_of_heap (HX2d.out.quiet ho3)) | (go_at_call 13; refine (pinned_b HB3.out HLK.out).mono ?_; rintro e w4 ⟨rfl, ho4⟩; have HB4 := Lib.hid (HB3.out.quiet ho4)) | (go_at_call 14; refine (limit_b HB4.out HLK.out).mono ?_; rintro e w5 ⟨rfl, ho5⟩; have HB5 := Lib.hid (HB4.out.quiet ho5); have u2 := (((HX2d.out.quiet ho3).quiet ho4).quiet ho5).c2) | (go_at_call 11; refine (fits_b HB5.out HS.out HF.out).mono ?_; rintro e w6 ⟨rfl, ho6⟩; have HB6 := Lib.hid (HB5.out.quiet ho6)))
                  go_roundw
                  case rel => exact ⟨k + 1, S2, by go_num, by omega, HB6.out⟩
                  case measure => simp [intOf]; omega
              · have hno : t < 0 ∨ S2[t.toNat]? = none := by
                  by_cases h0 : t < 0
                  · exact .inl h0
                  · refine .inr ?_
                    rw [List.getElem?_eq_none_iff, HLEN.out]
                    omega
                have HNO := Lib.hid hno
                have HLK := Lib.hid (show look S2 t = ⟨0, 0, 0⟩ by unfold look; rcases hno with h | h; (rw [if_pos h]); (rw [h]; split <;> rfl))
                clear hno
                rcases (show t < 0 ∨ (0 ≤ t ∧ (nn : Int) ≤ t) by omega) with ht | ⟨ht, ht'⟩
                all_goals
                  go_wp2_with (first | (go_at_call 12; refine (reached_b HB2.out HLK.out).mono ?_; rintro e w3 ⟨rfl, ho3⟩; have HB3 := Lib.hid (HB2.out.quiet ho3); have u0 := (HX2.out.quiet ho3).c2; have hl3 := lt_of_heap (HX2.out.quiet ho3)) | (go_at_call 13; refine (pinned_b HB3.out HLK.out).mono ?_; rintro e w4 ⟨rfl, ho4⟩; have HB4 := Lib.hid (HB3.out.quiet ho4)) | (go_at_call 14; refine (limit_b HB4.out HLK.out).mono ?_; rintro e w5 ⟨rfl, ho5⟩; have HB5 := Lib.hid (HB4.out.quiet ho5); have u2 := (((HX2.out.quiet ho3).quiet ho4).quiet ho5).c2) | (go_at_call 11; refine (fits_none _ _ HB5.out.book HNO.out).mono ?_; rintro e w6 ⟨rfl, ho6⟩; have HB6 := Lib.hid (HB5.out.quiet ho6)))
                  go_roundw
                  case rel => exact ⟨k + 1, S2, by go_num, by omega, HB6.out⟩
                  case measure => simp [intOf]; omega
      · have hstop : n1 ≤ k ∨ (k < n1 ∧ 200 ≤ k) := by omega
        clear hc
        rcases hstop with h1' | ⟨h1', h2'⟩
        all_goals
          go_wp2
          go_ret
          exact ⟨rfl, HBO.out.below⟩
  · have HC := Lib.hid hcode; clear hcode
    have hne : (newCode l0 == 0) = false := by simpa using HC.out
    go_enter Try.func5, Try.ntmps5
    go_wp2_with (first | (go_at_call 15; refine HN.out.mono ?_; rintro e w1 ⟨hq1, hpost⟩; rw [if_neg HC.out] at hpost; subst hpost) | (go_at_call 17; refine (rnew_any A0 n0 c0 l0 _ (AR0.out.kept (hq1.below (Nat.le_refl _) (fun _ x => x.elim)))).mono ?_; rintro e w2 ⟨hq2, hpost⟩; rw [if_neg HC.out] at hpost; subst hpost))
    go_ret
    have hb1 : Below w.heap.size w w1 := hq1.below (Nat.le_refl _) (fun _ x => x.elim)
    exact ⟨rfl, hb1.trans (hq2.below hb1.size (fun _ x => x.elim))⟩
theorem plays_law (w : World) (A0 : Option Addr) (n0 c0 : Nat) (l0 : List Int) (_ : n0 ≤ c0) (hcm0 : c0 ≤ maxLen) (_ : A0 = none → n0 = 0 ∧ c0 = 0) (arg0 : IntsArg .i64 w A0 n0 l0)
    (A1 : Option Addr) (n1 c1 : Nat) (l1 : List (Int × Int × Int)) (h1 : n1 ≤ c1) (hcm1 : c1 ≤ maxLen) (_ : A1 = none → n1 = 0 ∧ c1 = 0) (arg1 : StructsArg actCells 3 w A1 n1 l1) (hwf : ∀ x ∈ l1, ActWf w x) :
    Calls Try.prog 5 #[.slice A0 n0 c0, .slice A1 n1 c1] w fun e w' => e = .returned (.bool true) ∧ Below w.heap.size w w' :=
  plays_walk w A0 n0 c0 l0 hcm0 arg0 A1 n1 c1 l1 h1 hcm1 arg1 hwf
end Go.Proofs.Ytnkiibdmpldkmaa
