/-
  The reference's New. No conditions.
-/
import Derived.Test.YtgdjbmfpbihopaaRefNewMem
namespace Go.Proofs.Ytgdjbmfpbihopaa
open Go.RowKit Go.MapKept
set_option linter.unusedVariables false
set_option linter.unusedSimpArgs false

/-- What New leaves. -/
def RNewPost (locks words : Int) (l : List Int) (w : World) (e : Ending) (w' : World) : Prop :=
  (newCode locks words l = 0 ∧ ∃ p, e = .returned (.tuple #[.pointer (some ⟨p, 0, none⟩), .int .i64 0]) ∧ RRel w.heap.size p (newW locks words l) w' ∧ Quiet w w') ∨
  (newCode locks words l = 2 ∧ e = .returned (.tuple #[.pointer none, .int .i64 2]) ∧ Quiet w w')
set_option maxRecDepth 8000 in
set_option maxHeartbeats 16000000 in
theorem rnew_any (L0 W0 : Int) (A : Option Addr) (n c : Nat) (l : List Int) (w : World) (hc : n ≤ c) (hcm : c ≤ maxLen) (harg : IntsArg .i64 w A n l) (hnil : A = none → n = 0) :
    Calls Try.prog 18 #[.int .i64 L0, .int .i64 W0, .slice A n c] w (RNewPost L0 W0 l w) := by
  obtain ⟨hln, hwf, hcell⟩ := harg
  unfold maxLen at hcm
  by_cases h0 : L0 < 0 ∨ 64 < L0 ∨ W0 < 0 ∨ 64 < W0 ∨ 16 < n
  · have HC := Lib.hid (newCode_bad (L := L0) (W := W0) (l := l) (by omega))
    clear hwf hcell hln
    rcases (show L0 < 0 ∨ (¬ L0 < 0 ∧ 64 < L0) ∨ (¬ L0 < 0 ∧ ¬ 64 < L0 ∧ W0 < 0) ∨ (¬ L0 < 0 ∧ ¬ 64 < L0 ∧ ¬ W0 < 0 ∧ 64 < W0) ∨ (¬ L0 < 0 ∧ ¬ 64 < L0 ∧ ¬ W0 < 0 ∧ ¬ 64 < W0 ∧ 16 < n) by omega) with h1 | ⟨h1, h2⟩ | ⟨h1, h2, h3⟩ | ⟨h1, h2, h3, h4⟩ | ⟨h1, h2, h3, h4, h5⟩
    · have d1 := decide_eq_true h1
      clear h0 h1
      go_enter Try.func18, Try.ntmps18
      go_wp2_with fail
      go_ret2
      exact .inr ⟨HC.out, rfl, Only.refl _ _⟩
    · have d1 := decide_eq_false h1
      have d2 := decide_eq_true h2
      clear h0 h1 h2
      go_enter Try.func18, Try.ntmps18
      go_wp2_with fail
      go_ret2
      exact .inr ⟨HC.out, rfl, Only.refl _ _⟩
    · have d1 := decide_eq_false h1
      have d2 := decide_eq_false h2
      have d3 := decide_eq_true h3
      clear h0 h1 h2 h3
      go_enter Try.func18, Try.ntmps18
      go_wp2_with fail
      go_ret2
      exact .inr ⟨HC.out, rfl, Only.refl _ _⟩
    · have d1 := decide_eq_false h1
      have d2 := decide_eq_false h2
      have d3 := decide_eq_false h3
      have d4 := decide_eq_true h4
      clear h0 h1 h2 h3 h4
      go_enter Try.func18, Try.ntmps18
      go_wp2_with fail
      go_ret2
      exact .inr ⟨HC.out, rfl, Only.refl _ _⟩
    · have d1 := decide_eq_false h1
      have d2 := decide_eq_false h2
      have d3 := decide_eq_false h3
      have d4 := decide_eq_false h4
      have d5 : decide ((16 : Int) < (n : Int)) = true := by simp; omega
      clear h0 h1 h2 h3 h4 h5
      go_enter Try.func18, Try.ntmps18
      go_wp2_with fail
      go_ret2
      exact .inr ⟨HC.out, rfl, Only.refl _ _⟩
  obtain ⟨L, rfl⟩ : ∃ L : Nat, L0 = (L : Int) := ⟨L0.toNat, by omega⟩
  obtain ⟨m, rfl⟩ : ∃ m : Nat, W0 = (m : Int) := ⟨W0.toNat, by omega⟩
  have hL : L ≤ 64 := by omega
  have hm : m ≤ 64 := by omega
  have hn16 : n ≤ 16 := by omega
  have d1 : decide ((L : Int) < 0) = false := by simp
  have d2 : decide (64 < (L : Int)) = false := by simp; omega
  have d3 : decide ((m : Int) < 0) = false := by simp
  have d4 : decide (64 < (m : Int)) = false := by simp; omega
  have d5 : decide ((16 : Int) < (n : Int)) = false := by simp; omega
  have HB := Lib.hid (show ¬ ((L : Int) < 0 ∨ 64 < (L : Int) ∨ (m : Int) < 0 ∨ 64 < (m : Int) ∨ 16 < l.length) by omega)
  have HLN := Lib.hid hln
  have HNIL := Lib.hid hnil
  have HSRC := Lib.hid (fun (V : World) (hV : Quiet w V) => show Src V A (i64s l) from fun h0 => by
    rw [i64s_len, hln] at h0
    obtain ⟨b, off, e, hb, hcl⟩ := hcell h0
    refine ⟨b, off, e, fun i u hu => ?_⟩
    simp only [i64s, List.getElem?_map, Option.map_eq_some_iff] at hu
    obtain ⟨x, hx, rfl⟩ := hu
    exact (hV.cell (p := ⟨b, off + i, none⟩) hb (fun x => x)).trans (hcl i x hx))
  have HCL := Lib.hid hcell
  clear h0 hwf hcell hln hnil
  go_enter Try.func18, Try.ntmps18
  go_wp2_with fail
  go_loopw [8] (fun vi wr => ∃ k, k ≤ n ∧ vi = .int .i64 (k : Nat) ∧ (∀ x ∈ l.take k, 1 ≤ x ∧ x ≤ 64) ∧ Quiet w wr) (fun i _ => n - (intOf i).toNat)
  case atStart => exact ⟨0, by omega, rfl, by simp, Only.refl _ _⟩
  case round =>
    obtain ⟨k, hk, rfl, ha, hq⟩ := hrel
    have HA := Lib.hid ha; clear ha
    have HQ := Lib.hid hq; clear hq
    by_cases hlt : k < n
    · have hd1 : decide ((k : Int) < (n : Int)) = true := by simpa using hlt
      obtain ⟨b, off, rfl, hb, hcl⟩ := HCL.out (by omega)
      obtain ⟨x, hx⟩ : ∃ x, l[k]? = some x := ⟨_, List.getElem?_eq_getElem (by have := HLN.out; omega)⟩
      have q0 : wr.cell? ⟨b, off + k, none⟩ = some (.int .i64 x) := (HQ.out.cell (p := ⟨b, off + k, none⟩) hb (fun x => x)).trans (hcl k x hx)
      have bl : b < wr.heap.size := Nat.lt_of_lt_of_le hb HQ.out.size
      have HX := Lib.hid hx; clear hx hcl
      have k0 : (0 : Int) ≤ (k : Int) := by omega
      have k1 : (k : Int) < (n : Int) := by omega
      by_cases h1 : x < 1
      · have HBAD := Lib.hid (newCode_size (L := (L : Int)) (W := (m : Int)) HX.out (.inl h1))
        have d6 := decide_eq_true h1
        clear h1
        go_wp2_with fail
        go_ret2
        exact .inr ⟨HBAD.out, rfl, HQ.out⟩
      by_cases h2 : 64 < x
      · have HBAD := Lib.hid (newCode_size (L := (L : Int)) (W := (m : Int)) HX.out (.inr h2))
        have d6 := decide_eq_false h1
        have d7 := decide_eq_true h2
        clear h1 h2
        go_wp2_with fail
        go_ret2
        exact .inr ⟨HBAD.out, rfl, HQ.out⟩
      · have d6 := decide_eq_false h1
        have d7 := decide_eq_false h2
        have HXB := Lib.hid (show 1 ≤ x ∧ x ≤ 64 by omega)
        clear h1 h2
        go_wp2_with fail
        go_roundw
        case rel =>
          refine ⟨k + 1, by omega, by go_num, fun y hy => ?_, HQ.out⟩
          rw [take_more HX.out] at hy
          rcases List.mem_append.1 hy with hy | hy
          · exact HA.out y hy
          · obtain rfl := List.mem_singleton.1 hy; exact HXB.out
        case measure => simp [intOf]; omega
    · have hkn : k = n := by omega
      subst hkn
      have hd1 : decide ((k : Int) < (k : Int)) = false := by simp
      clear hlt
      have HC0 := Lib.hid (newCode_ok HB.out (fun x hx => HA.out x (by rw [List.take_of_length_le (by have := HLN.out; omega)]; exact hx)))
      obtain ⟨n, rfl⟩ : ∃ n : Nat, n = k := ⟨_, rfl⟩
      go_wp2_with fail
      have hn64 : n ≤ 64 := by omega
      have ST := NSt.start wr wr.drew ((Only.refl _ _).drew) L m n l
      refine wp_region_noPanic ?_
      refine wp_region_held_drew (S := (fun _ => True)) (by kernel_rfl) ?_ (fun hHeld => ?_)
      · try dsimp only
        try trivial
      refine wpAnyH_take (i := 0) (v := ?_) (at_list rfl) (by kernel_rfl) (by kernel_rfl) (by kernel_rfl) (fun _ _ _ h => h) (Or.inl ⟨by rfl, ?_⟩) (by assumption) ?_
      rotate_left
      · intro w hSw
        try dsimp only at hSw
        go_simp
        try with_reducible rfl
      simp only [Act.put, List.setIfInBounds_toArray, List.set_cons_zero, List.set_cons_succ]
      refine wpAnyH_take (i := 2) (v := ?_) (at_list rfl) (by kernel_rfl) (by kernel_rfl) (by kernel_rfl) (fun _ _ _ h => h) (Or.inl ⟨by rfl, ?_⟩) (by assumption) ?_
      rotate_left
      · intro w hSw
        try dsimp only at hSw
        go_simp
        try with_reducible rfl
      simp only [Act.put, List.setIfInBounds_toArray, List.set_cons_zero, List.set_cons_succ]
      refine wpAnyH_take (i := 4) (v := ?_) (at_list rfl) (by kernel_rfl) (by kernel_rfl) (by kernel_rfl) (fun _ _ _ h => h) (Or.inl ⟨by rfl, ?_⟩) (by assumption) ?_
      rotate_left
      · intro w hSw
        try dsimp only at hSw
        go_simp
        try with_reducible rfl
      simp only [Act.put, List.setIfInBounds_toArray, List.set_cons_zero, List.set_cons_succ]
      refine wpAnyH_take (i := 5) (v := ?_) (at_list rfl) (by kernel_rfl) (by kernel_rfl) (by kernel_rfl) (fun _ _ _ h => h) (Or.inl ⟨by rfl, ?_⟩) (by assumption) ?_
      rotate_left
      · intro w hSw
        try dsimp only at hSw
        go_simp
        try with_reducible rfl
      simp only [Act.put, List.setIfInBounds_toArray, List.set_cons_zero, List.set_cons_succ]
      refine wpAnyH_take (i := 8) (v := ?_) (at_list rfl) (by kernel_rfl) (by kernel_rfl) (by kernel_rfl) (fun _ _ _ h => h) (Or.inl ⟨by rfl, ?_⟩) (by assumption) ?_
      rotate_left
      · intro w hSw
        try dsimp only at hSw
        go_simp
        try with_reducible rfl
      simp only [Act.put, List.setIfInBounds_toArray, List.set_cons_zero, List.set_cons_succ]
      refine wpAnyH_ready (rs := [1, 3, 6, 7]) (by kernel_rfl) (by simp) ?_
      refine AllReadyH.cons (at_list rfl) (fun KK hKK => ?_) (AllReadyH.cons (at_list rfl) (fun KK hKK => ?_) (AllReadyH.cons (at_list rfl) (fun KK hKK => ?_) (AllReadyH.cons (at_list rfl) (fun KK hKK => ?_) AllReadyH.nil)))
      · skip
        refine n1 _ ST hL (by rfl) (.tmp 46) (by rfl) (by rfl) ?_
        intro g1 w1 ST
        refine hKK.out _ _ ?_ (fun hHeld2 => ?_)
        · try dsimp only
          try trivial
        clear hKK KK hHeld
        rename _ => hHeld
        try simp only [Act.put, List.setIfInBounds_toArray, List.set_cons_zero, List.set_cons_succ]
        refine wpAnyH_ready (rs := [3, 6, 7]) (by kernel_rfl) (by simp) ?_
        refine AllReadyH.cons (at_list rfl) (fun KK hKK => ?_) (AllReadyH.cons (at_list rfl) (fun KK hKK => ?_) (AllReadyH.cons (at_list rfl) (fun KK hKK => ?_) AllReadyH.nil))
        · skip
          refine n3 _ ST hm (by rfl) (.tmp 48) (by rfl) (by rfl) ?_
          intro g3 w3 ST
          refine hKK.out _ _ ?_ (fun hHeld2 => ?_)
          · try dsimp only
            try trivial
          clear hKK KK hHeld
          rename _ => hHeld
          try simp only [Act.put, List.setIfInBounds_toArray, List.set_cons_zero, List.set_cons_succ]
          refine wpAnyH_ready (rs := [6, 7]) (by kernel_rfl) (by simp) ?_
          refine AllReadyH.cons (at_list rfl) (fun KK hKK => ?_) (AllReadyH.cons (at_list rfl) (fun KK hKK => ?_) AllReadyH.nil)
          · skip
            refine n6 _ ST hn64 (by rfl) (.tmp 51) (by rfl) (by rfl) ?_
            intro g6 w6 ST
            refine hKK.out _ _ ?_ (fun hHeld2 => ?_)
            · try dsimp only
              try trivial
            clear hKK KK hHeld
            rename _ => hHeld
            try simp only [Act.put, List.setIfInBounds_toArray, List.set_cons_zero, List.set_cons_succ]
            refine wpAnyH_ready (rs := [7]) (by kernel_rfl) (by simp) ?_
            refine AllReadyH.cons (at_list rfl) (fun KK hKK => ?_) AllReadyH.nil
            refine n7 _ ST (by rfl) (by rfl) ?_
            intro g7 w7 ST
            refine hKK.out _ _ ?_ (fun hHeld2 => ?_)
            · try dsimp only
              try trivial
            clear hKK KK hHeld
            rename _ => hHeld
            try simp only [Act.put, List.setIfInBounds_toArray, List.set_cons_zero, List.set_cons_succ]
            refine wpAnyH_ready (rs := [9]) (by kernel_rfl) (by simp) ?_
            refine AllReadyH.cons (at_list rfl) (fun KK hKK => ?_) AllReadyH.nil
            refine n9 _ ST HQ.out hn16 HLN.out HSRC.out HNIL.out (by rfl) (.tmp 53) (.tmp 54) (by rfl) (by rfl) (by rfl) ?_
            intro A9 c9 w9 ST
            refine hKK.out _ _ ?_ (fun hHeld2 => ?_)
            · try dsimp only
              try trivial
            clear hKK KK hHeld
            rename _ => hHeld
            try simp only [Act.put, List.setIfInBounds_toArray, List.set_cons_zero, List.set_cons_succ]
            refine wpAnyH_take (i := 10) (v := ?_) (at_list rfl) (by kernel_rfl) (by kernel_rfl) (by kernel_rfl) (fun _ _ _ h => h) (Or.inl ⟨by rfl, ?_⟩) (by assumption) ?_
            rotate_left
            · intro w hSw
              try dsimp only at hSw
              go_simp
              try with_reducible rfl
            simp only [Act.put, List.setIfInBounds_toArray, List.set_cons_zero, List.set_cons_succ]
            refine wpAnyH_ready (rs := [11]) (by kernel_rfl) (by simp) ?_
            refine AllReadyH.cons (at_list rfl) (fun KK hKK => ?_) AllReadyH.nil
            go_simp
            refine hKK.out _ _ ?_ (fun hHeld2 => ?_)
            · try dsimp only
              try trivial
            clear hKK KK hHeld
            rename _ => hHeld
            try simp only [Act.put, List.setIfInBounds_toArray, List.set_cons_zero, List.set_cons_succ]
            refine wpAnyH_take (i := 12) (v := ?_) (at_list rfl) (by kernel_rfl) (by kernel_rfl) (by kernel_rfl) (fun _ _ _ h => h) (Or.inl ⟨by rfl, ?_⟩) (by assumption) ?_
            rotate_left
            · intro w hSw
              try dsimp only at hSw
              go_simp
              try with_reducible rfl
            simp only [Act.put, List.setIfInBounds_toArray, List.set_cons_zero, List.set_cons_succ]
            refine wpAnyH_take (i := 13) (v := ?_) (at_list rfl) (by kernel_rfl) (by kernel_rfl) (by kernel_rfl) (fun _ _ _ h => h) (Or.inl ⟨by rfl, ?_⟩) (by assumption) ?_
            rotate_left
            · intro w hSw
              try dsimp only at hSw
              go_simp
              try with_reducible rfl
            simp only [Act.put, List.setIfInBounds_toArray, List.set_cons_zero, List.set_cons_succ]
            refine wpAnyH_done (by kernel_rfl) ?_ _
            refine NoPanic.normal ?_
            have HM := Lib.hid (ST.done HQ.out HLN.out HC0.out)
            go_wp2_with fail
            go_ret2
            exact .inl ⟨HC0.out, _, rfl, HM.out.1, HM.out.2⟩
          · skip
            refine n7 _ ST (by rfl) (by rfl) ?_
            intro g7 w7 ST
            refine hKK.out _ _ ?_ (fun hHeld2 => ?_)
            · try dsimp only
              try trivial
            clear hKK KK hHeld
            rename _ => hHeld
            try simp only [Act.put, List.setIfInBounds_toArray, List.set_cons_zero, List.set_cons_succ]
            refine wpAnyH_ready (rs := [6, 9]) (by kernel_rfl) (by simp) ?_
            refine AllReadyH.cons (at_list rfl) (fun KK hKK => ?_) (AllReadyH.cons (at_list rfl) (fun KK hKK => ?_) AllReadyH.nil)
            · skip
              refine n6 _ ST hn64 (by rfl) (.tmp 51) (by rfl) (by rfl) ?_
              intro g6 w6 ST
              refine hKK.out _ _ ?_ (fun hHeld2 => ?_)
              · try dsimp only
                try trivial
              clear hKK KK hHeld
              rename _ => hHeld
              try simp only [Act.put, List.setIfInBounds_toArray, List.set_cons_zero, List.set_cons_succ]
              refine wpAnyH_ready (rs := [9]) (by kernel_rfl) (by simp) ?_
              refine AllReadyH.cons (at_list rfl) (fun KK hKK => ?_) AllReadyH.nil
              refine n9 _ ST HQ.out hn16 HLN.out HSRC.out HNIL.out (by rfl) (.tmp 53) (.tmp 54) (by rfl) (by rfl) (by rfl) ?_
              intro A9 c9 w9 ST
              refine hKK.out _ _ ?_ (fun hHeld2 => ?_)
              · try dsimp only
                try trivial
              clear hKK KK hHeld
              rename _ => hHeld
              try simp only [Act.put, List.setIfInBounds_toArray, List.set_cons_zero, List.set_cons_succ]
              refine wpAnyH_take (i := 10) (v := ?_) (at_list rfl) (by kernel_rfl) (by kernel_rfl) (by kernel_rfl) (fun _ _ _ h => h) (Or.inl ⟨by rfl, ?_⟩) (by assumption) ?_
              rotate_left
              · intro w hSw
                try dsimp only at hSw
                go_simp
                try with_reducible rfl
              simp only [Act.put, List.setIfInBounds_toArray, List.set_cons_zero, List.set_cons_succ]
              refine wpAnyH_ready (rs := [11]) (by kernel_rfl) (by simp) ?_
              refine AllReadyH.cons (at_list rfl) (fun KK hKK => ?_) AllReadyH.nil
              go_simp
              refine hKK.out _ _ ?_ (fun hHeld2 => ?_)
              · try dsimp only
                try trivial
              clear hKK KK hHeld
              rename _ => hHeld
              try simp only [Act.put, List.setIfInBounds_toArray, List.set_cons_zero, List.set_cons_succ]
              refine wpAnyH_take (i := 12) (v := ?_) (at_list rfl) (by kernel_rfl) (by kernel_rfl) (by kernel_rfl) (fun _ _ _ h => h) (Or.inl ⟨by rfl, ?_⟩) (by assumption) ?_
              rotate_left
              · intro w hSw
                try dsimp only at hSw
                go_simp
                try with_reducible rfl
              simp only [Act.put, List.setIfInBounds_toArray, List.set_cons_zero, List.set_cons_succ]
              refine wpAnyH_take (i := 13) (v := ?_) (at_list rfl) (by kernel_rfl) (by kernel_rfl) (by kernel_rfl) (fun _ _ _ h => h) (Or.inl ⟨by rfl, ?_⟩) (by assumption) ?_
              rotate_left
              · intro w hSw
                try dsimp only at hSw
                go_simp
                try with_reducible rfl
              simp only [Act.put, List.setIfInBounds_toArray, List.set_cons_zero, List.set_cons_succ]
              refine wpAnyH_done (by kernel_rfl) ?_ _
              refine NoPanic.normal ?_
              have HM := Lib.hid (ST.done HQ.out HLN.out HC0.out)
              go_wp2_with fail
              go_ret2
              exact .inl ⟨HC0.out, _, rfl, HM.out.1, HM.out.2⟩
            · skip
              refine n9 _ ST HQ.out hn16 HLN.out HSRC.out HNIL.out (by rfl) (.tmp 53) (.tmp 54) (by rfl) (by rfl) (by rfl) ?_
              intro A9 c9 w9 ST
              refine hKK.out _ _ ?_ (fun hHeld2 => ?_)
              · try dsimp only
                try trivial
              clear hKK KK hHeld
              rename _ => hHeld
              try simp only [Act.put, List.setIfInBounds_toArray, List.set_cons_zero, List.set_cons_succ]
              refine wpAnyH_ready (rs := [6]) (by kernel_rfl) (by simp) ?_
              refine AllReadyH.cons (at_list rfl) (fun KK hKK => ?_) AllReadyH.nil
              refine n6 _ ST hn64 (by rfl) (.tmp 51) (by rfl) (by rfl) ?_
              intro g6 w6 ST
              refine hKK.out _ _ ?_ (fun hHeld2 => ?_)
              · try dsimp only
                try trivial
              clear hKK KK hHeld
              rename _ => hHeld
              try simp only [Act.put, List.setIfInBounds_toArray, List.set_cons_zero, List.set_cons_succ]
              refine wpAnyH_take (i := 10) (v := ?_) (at_list rfl) (by kernel_rfl) (by kernel_rfl) (by kernel_rfl) (fun _ _ _ h => h) (Or.inl ⟨by rfl, ?_⟩) (by assumption) ?_
              rotate_left
              · intro w hSw
                try dsimp only at hSw
                go_simp
                try with_reducible rfl
              simp only [Act.put, List.setIfInBounds_toArray, List.set_cons_zero, List.set_cons_succ]
              refine wpAnyH_ready (rs := [11]) (by kernel_rfl) (by simp) ?_
              refine AllReadyH.cons (at_list rfl) (fun KK hKK => ?_) AllReadyH.nil
              go_simp
              refine hKK.out _ _ ?_ (fun hHeld2 => ?_)
              · try dsimp only
                try trivial
              clear hKK KK hHeld
              rename _ => hHeld
              try simp only [Act.put, List.setIfInBounds_toArray, List.set_cons_zero, List.set_cons_succ]
              refine wpAnyH_take (i := 12) (v := ?_) (at_list rfl) (by kernel_rfl) (by kernel_rfl) (by kernel_rfl) (fun _ _ _ h => h) (Or.inl ⟨by rfl, ?_⟩) (by assumption) ?_
              rotate_left
              · intro w hSw
                try dsimp only at hSw
                go_simp
                try with_reducible rfl
              simp only [Act.put, List.setIfInBounds_toArray, List.set_cons_zero, List.set_cons_succ]
              refine wpAnyH_take (i := 13) (v := ?_) (at_list rfl) (by kernel_rfl) (by kernel_rfl) (by kernel_rfl) (fun _ _ _ h => h) (Or.inl ⟨by rfl, ?_⟩) (by assumption) ?_
              rotate_left
              · intro w hSw
                try dsimp only at hSw
                go_simp
                try with_reducible rfl
              simp only [Act.put, List.setIfInBounds_toArray, List.set_cons_zero, List.set_cons_succ]
              refine wpAnyH_done (by kernel_rfl) ?_ _
              refine NoPanic.normal ?_
              have HM := Lib.hid (ST.done HQ.out HLN.out HC0.out)
              go_wp2_with fail
              go_ret2
              exact .inl ⟨HC0.out, _, rfl, HM.out.1, HM.out.2⟩
        · skip
          refine n6 _ ST hn64 (by rfl) (.tmp 51) (by rfl) (by rfl) ?_
          intro g6 w6 ST
          refine hKK.out _ _ ?_ (fun hHeld2 => ?_)
          · try dsimp only
            try trivial
          clear hKK KK hHeld
          rename _ => hHeld
          try simp only [Act.put, List.setIfInBounds_toArray, List.set_cons_zero, List.set_cons_succ]
          refine wpAnyH_ready (rs := [3, 7]) (by kernel_rfl) (by simp) ?_
          refine AllReadyH.cons (at_list rfl) (fun KK hKK => ?_) (AllReadyH.cons (at_list rfl) (fun KK hKK => ?_) AllReadyH.nil)
          · skip
            refine n3 _ ST hm (by rfl) (.tmp 48) (by rfl) (by rfl) ?_
            intro g3 w3 ST
            refine hKK.out _ _ ?_ (fun hHeld2 => ?_)
            · try dsimp only
              try trivial
            clear hKK KK hHeld
            rename _ => hHeld
            try simp only [Act.put, List.setIfInBounds_toArray, List.set_cons_zero, List.set_cons_succ]
            refine wpAnyH_ready (rs := [7]) (by kernel_rfl) (by simp) ?_
            refine AllReadyH.cons (at_list rfl) (fun KK hKK => ?_) AllReadyH.nil
            refine n7 _ ST (by rfl) (by rfl) ?_
            intro g7 w7 ST
            refine hKK.out _ _ ?_ (fun hHeld2 => ?_)
            · try dsimp only
              try trivial
            clear hKK KK hHeld
            rename _ => hHeld
            try simp only [Act.put, List.setIfInBounds_toArray, List.set_cons_zero, List.set_cons_succ]
            refine wpAnyH_ready (rs := [9]) (by kernel_rfl) (by simp) ?_
            refine AllReadyH.cons (at_list rfl) (fun KK hKK => ?_) AllReadyH.nil
            refine n9 _ ST HQ.out hn16 HLN.out HSRC.out HNIL.out (by rfl) (.tmp 53) (.tmp 54) (by rfl) (by rfl) (by rfl) ?_
            intro A9 c9 w9 ST
            refine hKK.out _ _ ?_ (fun hHeld2 => ?_)
            · try dsimp only
              try trivial
            clear hKK KK hHeld
            rename _ => hHeld
            try simp only [Act.put, List.setIfInBounds_toArray, List.set_cons_zero, List.set_cons_succ]
            refine wpAnyH_take (i := 10) (v := ?_) (at_list rfl) (by kernel_rfl) (by kernel_rfl) (by kernel_rfl) (fun _ _ _ h => h) (Or.inl ⟨by rfl, ?_⟩) (by assumption) ?_
            rotate_left
            · intro w hSw
              try dsimp only at hSw
              go_simp
              try with_reducible rfl
            simp only [Act.put, List.setIfInBounds_toArray, List.set_cons_zero, List.set_cons_succ]
            refine wpAnyH_ready (rs := [11]) (by kernel_rfl) (by simp) ?_
            refine AllReadyH.cons (at_list rfl) (fun KK hKK => ?_) AllReadyH.nil
            go_simp
            refine hKK.out _ _ ?_ (fun hHeld2 => ?_)
            · try dsimp only
              try trivial
            clear hKK KK hHeld
            rename _ => hHeld
            try simp only [Act.put, List.setIfInBounds_toArray, List.set_cons_zero, List.set_cons_succ]
            refine wpAnyH_take (i := 12) (v := ?_) (at_list rfl) (by kernel_rfl) (by kernel_rfl) (by kernel_rfl) (fun _ _ _ h => h) (Or.inl ⟨by rfl, ?_⟩) (by assumption) ?_
            rotate_left
            · intro w hSw
              try dsimp only at hSw
              go_simp
              try with_reducible rfl
            simp only [Act.put, List.setIfInBounds_toArray, List.set_cons_zero, List.set_cons_succ]
            refine wpAnyH_take (i := 13) (v := ?_) (at_list rfl) (by kernel_rfl) (by kernel_rfl) (by kernel_rfl) (fun _ _ _ h => h) (Or.inl ⟨by rfl, ?_⟩) (by assumption) ?_
            rotate_left
            · intro w hSw
              try dsimp only at hSw
              go_simp
              try with_reducible rfl
            simp only [Act.put, List.setIfInBounds_toArray, List.set_cons_zero, List.set_cons_succ]
            refine wpAnyH_done (by kernel_rfl) ?_ _
            refine NoPanic.normal ?_
            have HM := Lib.hid (ST.done HQ.out HLN.out HC0.out)
            go_wp2_with fail
            go_ret2
            exact .inl ⟨HC0.out, _, rfl, HM.out.1, HM.out.2⟩
          · skip
            refine n7 _ ST (by rfl) (by rfl) ?_
            intro g7 w7 ST
            refine hKK.out _ _ ?_ (fun hHeld2 => ?_)
            · try dsimp only
              try trivial
            clear hKK KK hHeld
            rename _ => hHeld
            try simp only [Act.put, List.setIfInBounds_toArray, List.set_cons_zero, List.set_cons_succ]
            refine wpAnyH_ready (rs := [3, 9]) (by kernel_rfl) (by simp) ?_
            refine AllReadyH.cons (at_list rfl) (fun KK hKK => ?_) (AllReadyH.cons (at_list rfl) (fun KK hKK => ?_) AllReadyH.nil)
            · skip
              refine n3 _ ST hm (by rfl) (.tmp 48) (by rfl) (by rfl) ?_
              intro g3 w3 ST
              refine hKK.out _ _ ?_ (fun hHeld2 => ?_)
              · try dsimp only
                try trivial
              clear hKK KK hHeld
              rename _ => hHeld
              try simp only [Act.put, List.setIfInBounds_toArray, List.set_cons_zero, List.set_cons_succ]
              refine wpAnyH_ready (rs := [9]) (by kernel_rfl) (by simp) ?_
              refine AllReadyH.cons (at_list rfl) (fun KK hKK => ?_) AllReadyH.nil
              refine n9 _ ST HQ.out hn16 HLN.out HSRC.out HNIL.out (by rfl) (.tmp 53) (.tmp 54) (by rfl) (by rfl) (by rfl) ?_
              intro A9 c9 w9 ST
              refine hKK.out _ _ ?_ (fun hHeld2 => ?_)
              · try dsimp only
                try trivial
              clear hKK KK hHeld
              rename _ => hHeld
              try simp only [Act.put, List.setIfInBounds_toArray, List.set_cons_zero, List.set_cons_succ]
              refine wpAnyH_take (i := 10) (v := ?_) (at_list rfl) (by kernel_rfl) (by kernel_rfl) (by kernel_rfl) (fun _ _ _ h => h) (Or.inl ⟨by rfl, ?_⟩) (by assumption) ?_
              rotate_left
              · intro w hSw
                try dsimp only at hSw
                go_simp
                try with_reducible rfl
              simp only [Act.put, List.setIfInBounds_toArray, List.set_cons_zero, List.set_cons_succ]
              refine wpAnyH_ready (rs := [11]) (by kernel_rfl) (by simp) ?_
              refine AllReadyH.cons (at_list rfl) (fun KK hKK => ?_) AllReadyH.nil
              go_simp
              refine hKK.out _ _ ?_ (fun hHeld2 => ?_)
              · try dsimp only
                try trivial
              clear hKK KK hHeld
              rename _ => hHeld
              try simp only [Act.put, List.setIfInBounds_toArray, List.set_cons_zero, List.set_cons_succ]
              refine wpAnyH_take (i := 12) (v := ?_) (at_list rfl) (by kernel_rfl) (by kernel_rfl) (by kernel_rfl) (fun _ _ _ h => h) (Or.inl ⟨by rfl, ?_⟩) (by assumption) ?_
              rotate_left
              · intro w hSw
                try dsimp only at hSw
                go_simp
                try with_reducible rfl
              simp only [Act.put, List.setIfInBounds_toArray, List.set_cons_zero, List.set_cons_succ]
              refine wpAnyH_take (i := 13) (v := ?_) (at_list rfl) (by kernel_rfl) (by kernel_rfl) (by kernel_rfl) (fun _ _ _ h => h) (Or.inl ⟨by rfl, ?_⟩) (by assumption) ?_
              rotate_left
              · intro w hSw
                try dsimp only at hSw
                go_simp
                try with_reducible rfl
              simp only [Act.put, List.setIfInBounds_toArray, List.set_cons_zero, List.set_cons_succ]
              refine wpAnyH_done (by kernel_rfl) ?_ _
              refine NoPanic.normal ?_
              have HM := Lib.hid (ST.done HQ.out HLN.out HC0.out)
              go_wp2_with fail
              go_ret2
              exact .inl ⟨HC0.out, _, rfl, HM.out.1, HM.out.2⟩
            · skip
              refine n9 _ ST HQ.out hn16 HLN.out HSRC.out HNIL.out (by rfl) (.tmp 53) (.tmp 54) (by rfl) (by rfl) (by rfl) ?_
              intro A9 c9 w9 ST
              refine hKK.out _ _ ?_ (fun hHeld2 => ?_)
              · try dsimp only
                try trivial
              clear hKK KK hHeld
              rename _ => hHeld
              try simp only [Act.put, List.setIfInBounds_toArray, List.set_cons_zero, List.set_cons_succ]
              refine wpAnyH_ready (rs := [3]) (by kernel_rfl) (by simp) ?_
              refine AllReadyH.cons (at_list rfl) (fun KK hKK => ?_) AllReadyH.nil
              refine n3 _ ST hm (by rfl) (.tmp 48) (by rfl) (by rfl) ?_
              intro g3 w3 ST
              refine hKK.out _ _ ?_ (fun hHeld2 => ?_)
              · try dsimp only
                try trivial
              clear hKK KK hHeld
              rename _ => hHeld
              try simp only [Act.put, List.setIfInBounds_toArray, List.set_cons_zero, List.set_cons_succ]
              refine wpAnyH_take (i := 10) (v := ?_) (at_list rfl) (by kernel_rfl) (by kernel_rfl) (by kernel_rfl) (fun _ _ _ h => h) (Or.inl ⟨by rfl, ?_⟩) (by assumption) ?_
              rotate_left
              · intro w hSw
                try dsimp only at hSw
                go_simp
                try with_reducible rfl
              simp only [Act.put, List.setIfInBounds_toArray, List.set_cons_zero, List.set_cons_succ]
              refine wpAnyH_ready (rs := [11]) (by kernel_rfl) (by simp) ?_
              refine AllReadyH.cons (at_list rfl) (fun KK hKK => ?_) AllReadyH.nil
              go_simp
              refine hKK.out _ _ ?_ (fun hHeld2 => ?_)
              · try dsimp only
                try trivial
              clear hKK KK hHeld
              rename _ => hHeld
              try simp only [Act.put, List.setIfInBounds_toArray, List.set_cons_zero, List.set_cons_succ]
              refine wpAnyH_take (i := 12) (v := ?_) (at_list rfl) (by kernel_rfl) (by kernel_rfl) (by kernel_rfl) (fun _ _ _ h => h) (Or.inl ⟨by rfl, ?_⟩) (by assumption) ?_
              rotate_left
              · intro w hSw
                try dsimp only at hSw
                go_simp
                try with_reducible rfl
              simp only [Act.put, List.setIfInBounds_toArray, List.set_cons_zero, List.set_cons_succ]
              refine wpAnyH_take (i := 13) (v := ?_) (at_list rfl) (by kernel_rfl) (by kernel_rfl) (by kernel_rfl) (fun _ _ _ h => h) (Or.inl ⟨by rfl, ?_⟩) (by assumption) ?_
              rotate_left
              · intro w hSw
                try dsimp only at hSw
                go_simp
                try with_reducible rfl
              simp only [Act.put, List.setIfInBounds_toArray, List.set_cons_zero, List.set_cons_succ]
              refine wpAnyH_done (by kernel_rfl) ?_ _
              refine NoPanic.normal ?_
              have HM := Lib.hid (ST.done HQ.out HLN.out HC0.out)
              go_wp2_with fail
              go_ret2
              exact .inl ⟨HC0.out, _, rfl, HM.out.1, HM.out.2⟩
        · skip
          refine n7 _ ST (by rfl) (by rfl) ?_
          intro g7 w7 ST
          refine hKK.out _ _ ?_ (fun hHeld2 => ?_)
          · try dsimp only
            try trivial
          clear hKK KK hHeld
          rename _ => hHeld
          try simp only [Act.put, List.setIfInBounds_toArray, List.set_cons_zero, List.set_cons_succ]
          refine wpAnyH_ready (rs := [3, 6, 9]) (by kernel_rfl) (by simp) ?_
          refine AllReadyH.cons (at_list rfl) (fun KK hKK => ?_) (AllReadyH.cons (at_list rfl) (fun KK hKK => ?_) (AllReadyH.cons (at_list rfl) (fun KK hKK => ?_) AllReadyH.nil))
          · skip
            refine n3 _ ST hm (by rfl) (.tmp 48) (by rfl) (by rfl) ?_
            intro g3 w3 ST
            refine hKK.out _ _ ?_ (fun hHeld2 => ?_)
            · try dsimp only
              try trivial
            clear hKK KK hHeld
            rename _ => hHeld
            try simp only [Act.put, List.setIfInBounds_toArray, List.set_cons_zero, List.set_cons_succ]
            refine wpAnyH_ready (rs := [6, 9]) (by kernel_rfl) (by simp) ?_
            refine AllReadyH.cons (at_list rfl) (fun KK hKK => ?_) (AllReadyH.cons (at_list rfl) (fun KK hKK => ?_) AllReadyH.nil)
            · skip
              refine n6 _ ST hn64 (by rfl) (.tmp 51) (by rfl) (by rfl) ?_
              intro g6 w6 ST
              refine hKK.out _ _ ?_ (fun hHeld2 => ?_)
              · try dsimp only
                try trivial
              clear hKK KK hHeld
              rename _ => hHeld
              try simp only [Act.put, List.setIfInBounds_toArray, List.set_cons_zero, List.set_cons_succ]
              refine wpAnyH_ready (rs := [9]) (by kernel_rfl) (by simp) ?_
              refine AllReadyH.cons (at_list rfl) (fun KK hKK => ?_) AllReadyH.nil
              refine n9 _ ST HQ.out hn16 HLN.out HSRC.out HNIL.out (by rfl) (.tmp 53) (.tmp 54) (by rfl) (by rfl) (by rfl) ?_
              intro A9 c9 w9 ST
              refine hKK.out _ _ ?_ (fun hHeld2 => ?_)
              · try dsimp only
                try trivial
              clear hKK KK hHeld
              rename _ => hHeld
              try simp only [Act.put, List.setIfInBounds_toArray, List.set_cons_zero, List.set_cons_succ]
              refine wpAnyH_take (i := 10) (v := ?_) (at_list rfl) (by kernel_rfl) (by kernel_rfl) (by kernel_rfl) (fun _ _ _ h => h) (Or.inl ⟨by rfl, ?_⟩) (by assumption) ?_
              rotate_left
              · intro w hSw
                try dsimp only at hSw
                go_simp
                try with_reducible rfl
              simp only [Act.put, List.setIfInBounds_toArray, List.set_cons_zero, List.set_cons_succ]
              refine wpAnyH_ready (rs := [11]) (by kernel_rfl) (by simp) ?_
              refine AllReadyH.cons (at_list rfl) (fun KK hKK => ?_) AllReadyH.nil
              go_simp
              refine hKK.out _ _ ?_ (fun hHeld2 => ?_)
              · try dsimp only
                try trivial
              clear hKK KK hHeld
              rename _ => hHeld
              try simp only [Act.put, List.setIfInBounds_toArray, List.set_cons_zero, List.set_cons_succ]
              refine wpAnyH_take (i := 12) (v := ?_) (at_list rfl) (by kernel_rfl) (by kernel_rfl) (by kernel_rfl) (fun _ _ _ h => h) (Or.inl ⟨by rfl, ?_⟩) (by assumption) ?_
              rotate_left
              · intro w hSw
                try dsimp only at hSw
                go_simp
                try with_reducible rfl
              simp only [Act.put, List.setIfInBounds_toArray, List.set_cons_zero, List.set_cons_succ]
              refine wpAnyH_take (i := 13) (v := ?_) (at_list rfl) (by kernel_rfl) (by kernel_rfl) (by kernel_rfl) (fun _ _ _ h => h) (Or.inl ⟨by rfl, ?_⟩) (by assumption) ?_
              rotate_left
              · intro w hSw
                try dsimp only at hSw
                go_simp
                try with_reducible rfl
              simp only [Act.put, List.setIfInBounds_toArray, List.set_cons_zero, List.set_cons_succ]
              refine wpAnyH_done (by kernel_rfl) ?_ _
              refine NoPanic.normal ?_
              have HM := Lib.hid (ST.done HQ.out HLN.out HC0.out)
              go_wp2_with fail
              go_ret2
              exact .inl ⟨HC0.out, _, rfl, HM.out.1, HM.out.2⟩
            · skip
              refine n9 _ ST HQ.out hn16 HLN.out HSRC.out HNIL.out (by rfl) (.tmp 53) (.tmp 54) (by rfl) (by rfl) (by rfl) ?_
              intro A9 c9 w9 ST
              refine hKK.out _ _ ?_ (fun hHeld2 => ?_)
              · try dsimp only
                try trivial
              clear hKK KK hHeld
              rename _ => hHeld
              try simp only [Act.put, List.setIfInBounds_toArray, List.set_cons_zero, List.set_cons_succ]
              refine wpAnyH_ready (rs := [6]) (by kernel_rfl) (by simp) ?_
              refine AllReadyH.cons (at_list rfl) (fun KK hKK => ?_) AllReadyH.nil
              refine n6 _ ST hn64 (by rfl) (.tmp 51) (by rfl) (by rfl) ?_
              intro g6 w6 ST
              refine hKK.out _ _ ?_ (fun hHeld2 => ?_)
              · try dsimp only
                try trivial
              clear hKK KK hHeld
              rename _ => hHeld
              try simp only [Act.put, List.setIfInBounds_toArray, List.set_cons_zero, List.set_cons_succ]
              refine wpAnyH_take (i := 10) (v := ?_) (at_list rfl) (by kernel_rfl) (by kernel_rfl) (by kernel_rfl) (fun _ _ _ h => h) (Or.inl ⟨by rfl, ?_⟩) (by assumption) ?_
              rotate_left
              · intro w hSw
                try dsimp only at hSw
                go_simp
                try with_reducible rfl
              simp only [Act.put, List.setIfInBounds_toArray, List.set_cons_zero, List.set_cons_succ]
              refine wpAnyH_ready (rs := [11]) (by kernel_rfl) (by simp) ?_
              refine AllReadyH.cons (at_list rfl) (fun KK hKK => ?_) AllReadyH.nil
              go_simp
              refine hKK.out _ _ ?_ (fun hHeld2 => ?_)
              · try dsimp only
                try trivial
              clear hKK KK hHeld
              rename _ => hHeld
              try simp only [Act.put, List.setIfInBounds_toArray, List.set_cons_zero, List.set_cons_succ]
              refine wpAnyH_take (i := 12) (v := ?_) (at_list rfl) (by kernel_rfl) (by kernel_rfl) (by kernel_rfl) (fun _ _ _ h => h) (Or.inl ⟨by rfl, ?_⟩) (by assumption) ?_
              rotate_left
              · intro w hSw
                try dsimp only at hSw
                go_simp
                try with_reducible rfl
              simp only [Act.put, List.setIfInBounds_toArray, List.set_cons_zero, List.set_cons_succ]
              refine wpAnyH_take (i := 13) (v := ?_) (at_list rfl) (by kernel_rfl) (by kernel_rfl) (by kernel_rfl) (fun _ _ _ h => h) (Or.inl ⟨by rfl, ?_⟩) (by assumption) ?_
              rotate_left
              · intro w hSw
                try dsimp only at hSw
                go_simp
                try with_reducible rfl
              simp only [Act.put, List.setIfInBounds_toArray, List.set_cons_zero, List.set_cons_succ]
              refine wpAnyH_done (by kernel_rfl) ?_ _
              refine NoPanic.normal ?_
              have HM := Lib.hid (ST.done HQ.out HLN.out HC0.out)
              go_wp2_with fail
              go_ret2
              exact .inl ⟨HC0.out, _, rfl, HM.out.1, HM.out.2⟩
          · skip
            refine n6 _ ST hn64 (by rfl) (.tmp 51) (by rfl) (by rfl) ?_
            intro g6 w6 ST
            refine hKK.out _ _ ?_ (fun hHeld2 => ?_)
            · try dsimp only
              try trivial
            clear hKK KK hHeld
            rename _ => hHeld
            try simp only [Act.put, List.setIfInBounds_toArray, List.set_cons_zero, List.set_cons_succ]
            refine wpAnyH_ready (rs := [3, 9]) (by kernel_rfl) (by simp) ?_
            refine AllReadyH.cons (at_list rfl) (fun KK hKK => ?_) (AllReadyH.cons (at_list rfl) (fun KK hKK => ?_) AllReadyH.nil)
            · skip
              refine n3 _ ST hm (by rfl) (.tmp 48) (by rfl) (by rfl) ?_
              intro g3 w3 ST
              refine hKK.out _ _ ?_ (fun hHeld2 => ?_)
              · try dsimp only
                try trivial
              clear hKK KK hHeld
              rename _ => hHeld
              try simp only [Act.put, List.setIfInBounds_toArray, List.set_cons_zero, List.set_cons_succ]
              refine wpAnyH_ready (rs := [9]) (by kernel_rfl) (by simp) ?_
              refine AllReadyH.cons (at_list rfl) (fun KK hKK => ?_) AllReadyH.nil
              refine n9 _ ST HQ.out hn16 HLN.out HSRC.out HNIL.out (by rfl) (.tmp 53) (.tmp 54) (by rfl) (by rfl) (by rfl) ?_
              intro A9 c9 w9 ST
              refine hKK.out _ _ ?_ (fun hHeld2 => ?_)
              · try dsimp only
                try trivial
              clear hKK KK hHeld
              rename _ => hHeld
              try simp only [Act.put, List.setIfInBounds_toArray, List.set_cons_zero, List.set_cons_succ]
              refine wpAnyH_take (i := 10) (v := ?_) (at_list rfl) (by kernel_rfl) (by kernel_rfl) (by kernel_rfl) (fun _ _ _ h => h) (Or.inl ⟨by rfl, ?_⟩) (by assumption) ?_
              rotate_left
              · intro w hSw
                try dsimp only at hSw
                go_simp
                try with_reducible rfl
              simp only [Act.put, List.setIfInBounds_toArray, List.set_cons_zero, List.set_cons_succ]
              refine wpAnyH_ready (rs := [11]) (by kernel_rfl) (by simp) ?_
              refine AllReadyH.cons (at_list rfl) (fun KK hKK => ?_) AllReadyH.nil
              go_simp
              refine hKK.out _ _ ?_ (fun hHeld2 => ?_)
              · try dsimp only
                try trivial
              clear hKK KK hHeld
              rename _ => hHeld
              try simp only [Act.put, List.setIfInBounds_toArray, List.set_cons_zero, List.set_cons_succ]
              refine wpAnyH_take (i := 12) (v := ?_) (at_list rfl) (by kernel_rfl) (by kernel_rfl) (by kernel_rfl) (fun _ _ _ h => h) (Or.inl ⟨by rfl, ?_⟩) (by assumption) ?_
              rotate_left
              · intro w hSw
                try dsimp only at hSw
                go_simp
                try with_reducible rfl
              simp only [Act.put, List.setIfInBounds_toArray, List.set_cons_zero, List.set_cons_succ]
              refine wpAnyH_take (i := 13) (v := ?_) (at_list rfl) (by kernel_rfl) (by kernel_rfl) (by kernel_rfl) (fun _ _ _ h => h) (Or.inl ⟨by rfl, ?_⟩) (by assumption) ?_
              rotate_left
              · intro w hSw
                try dsimp only at hSw
                go_simp
                try with_reducible rfl
              simp only [Act.put, List.setIfInBounds_toArray, List.set_cons_zero, List.set_cons_succ]
              refine wpAnyH_done (by kernel_rfl) ?_ _
              refine NoPanic.normal ?_
              have HM := Lib.hid (ST.done HQ.out HLN.out HC0.out)
              go_wp2_with fail
              go_ret2
              exact .inl ⟨HC0.out, _, rfl, HM.out.1, HM.out.2⟩
            · skip
              refine n9 _ ST HQ.out hn16 HLN.out HSRC.out HNIL.out (by rfl) (.tmp 53) (.tmp 54) (by rfl) (by rfl) (by rfl) ?_
              intro A9 c9 w9 ST
              refine hKK.out _ _ ?_ (fun hHeld2 => ?_)
              · try dsimp only
                try trivial
              clear hKK KK hHeld
              rename _ => hHeld
              try simp only [Act.put, List.setIfInBounds_toArray, List.set_cons_zero, List.set_cons_succ]
              refine wpAnyH_ready (rs := [3]) (by kernel_rfl) (by simp) ?_
              refine AllReadyH.cons (at_list rfl) (fun KK hKK => ?_) AllReadyH.nil
              refine n3 _ ST hm (by rfl) (.tmp 48) (by rfl) (by rfl) ?_
              intro g3 w3 ST
              refine hKK.out _ _ ?_ (fun hHeld2 => ?_)
              · try dsimp only
                try trivial
              clear hKK KK hHeld
              rename _ => hHeld
              try simp only [Act.put, List.setIfInBounds_toArray, List.set_cons_zero, List.set_cons_succ]
              refine wpAnyH_take (i := 10) (v := ?_) (at_list rfl) (by kernel_rfl) (by kernel_rfl) (by kernel_rfl) (fun _ _ _ h => h) (Or.inl ⟨by rfl, ?_⟩) (by assumption) ?_
              rotate_left
              · intro w hSw
                try dsimp only at hSw
                go_simp
                try with_reducible rfl
              simp only [Act.put, List.setIfInBounds_toArray, List.set_cons_zero, List.set_cons_succ]
              refine wpAnyH_ready (rs := [11]) (by kernel_rfl) (by simp) ?_
              refine AllReadyH.cons (at_list rfl) (fun KK hKK => ?_) AllReadyH.nil
              go_simp
              refine hKK.out _ _ ?_ (fun hHeld2 => ?_)
              · try dsimp only
                try trivial
              clear hKK KK hHeld
              rename _ => hHeld
              try simp only [Act.put, List.setIfInBounds_toArray, List.set_cons_zero, List.set_cons_succ]
              refine wpAnyH_take (i := 12) (v := ?_) (at_list rfl) (by kernel_rfl) (by kernel_rfl) (by kernel_rfl) (fun _ _ _ h => h) (Or.inl ⟨by rfl, ?_⟩) (by assumption) ?_
              rotate_left
              · intro w hSw
                try dsimp only at hSw
                go_simp
                try with_reducible rfl
              simp only [Act.put, List.setIfInBounds_toArray, List.set_cons_zero, List.set_cons_succ]
              refine wpAnyH_take (i := 13) (v := ?_) (at_list rfl) (by kernel_rfl) (by kernel_rfl) (by kernel_rfl) (fun _ _ _ h => h) (Or.inl ⟨by rfl, ?_⟩) (by assumption) ?_
              rotate_left
              · intro w hSw
                try dsimp only at hSw
                go_simp
                try with_reducible rfl
              simp only [Act.put, List.setIfInBounds_toArray, List.set_cons_zero, List.set_cons_succ]
              refine wpAnyH_done (by kernel_rfl) ?_ _
              refine NoPanic.normal ?_
              have HM := Lib.hid (ST.done HQ.out HLN.out HC0.out)
              go_wp2_with fail
              go_ret2
              exact .inl ⟨HC0.out, _, rfl, HM.out.1, HM.out.2⟩
          · skip
            refine n9 _ ST HQ.out hn16 HLN.out HSRC.out HNIL.out (by rfl) (.tmp 53) (.tmp 54) (by rfl) (by rfl) (by rfl) ?_
            intro A9 c9 w9 ST
            refine hKK.out _ _ ?_ (fun hHeld2 => ?_)
            · try dsimp only
              try trivial
            clear hKK KK hHeld
            rename _ => hHeld
            try simp only [Act.put, List.setIfInBounds_toArray, List.set_cons_zero, List.set_cons_succ]
            refine wpAnyH_ready (rs := [3, 6]) (by kernel_rfl) (by simp) ?_
            refine AllReadyH.cons (at_list rfl) (fun KK hKK => ?_) (AllReadyH.cons (at_list rfl) (fun KK hKK => ?_) AllReadyH.nil)
            · skip
              refine n3 _ ST hm (by rfl) (.tmp 48) (by rfl) (by rfl) ?_
              intro g3 w3 ST
              refine hKK.out _ _ ?_ (fun hHeld2 => ?_)
              · try dsimp only
                try trivial
              clear hKK KK hHeld
              rename _ => hHeld
              try simp only [Act.put, List.setIfInBounds_toArray, List.set_cons_zero, List.set_cons_succ]
              refine wpAnyH_ready (rs := [6]) (by kernel_rfl) (by simp) ?_
              refine AllReadyH.cons (at_list rfl) (fun KK hKK => ?_) AllReadyH.nil
              refine n6 _ ST hn64 (by rfl) (.tmp 51) (by rfl) (by rfl) ?_
              intro g6 w6 ST
              refine hKK.out _ _ ?_ (fun hHeld2 => ?_)
              · try dsimp only
                try trivial
              clear hKK KK hHeld
              rename _ => hHeld
              try simp only [Act.put, List.setIfInBounds_toArray, List.set_cons_zero, List.set_cons_succ]
              refine wpAnyH_take (i := 10) (v := ?_) (at_list rfl) (by kernel_rfl) (by kernel_rfl) (by kernel_rfl) (fun _ _ _ h => h) (Or.inl ⟨by rfl, ?_⟩) (by assumption) ?_
              rotate_left
              · intro w hSw
                try dsimp only at hSw
                go_simp
                try with_reducible rfl
              simp only [Act.put, List.setIfInBounds_toArray, List.set_cons_zero, List.set_cons_succ]
              refine wpAnyH_ready (rs := [11]) (by kernel_rfl) (by simp) ?_
              refine AllReadyH.cons (at_list rfl) (fun KK hKK => ?_) AllReadyH.nil
              go_simp
              refine hKK.out _ _ ?_ (fun hHeld2 => ?_)
              · try dsimp only
                try trivial
              clear hKK KK hHeld
              rename _ => hHeld
              try simp only [Act.put, List.setIfInBounds_toArray, List.set_cons_zero, List.set_cons_succ]
              refine wpAnyH_take (i := 12) (v := ?_) (at_list rfl) (by kernel_rfl) (by kernel_rfl) (by kernel_rfl) (fun _ _ _ h => h) (Or.inl ⟨by rfl, ?_⟩) (by assumption) ?_
              rotate_left
              · intro w hSw
                try dsimp only at hSw
                go_simp
                try with_reducible rfl
              simp only [Act.put, List.setIfInBounds_toArray, List.set_cons_zero, List.set_cons_succ]
              refine wpAnyH_take (i := 13) (v := ?_) (at_list rfl) (by kernel_rfl) (by kernel_rfl) (by kernel_rfl) (fun _ _ _ h => h) (Or.inl ⟨by rfl, ?_⟩) (by assumption) ?_
              rotate_left
              · intro w hSw
                try dsimp only at hSw
                go_simp
                try with_reducible rfl
              simp only [Act.put, List.setIfInBounds_toArray, List.set_cons_zero, List.set_cons_succ]
              refine wpAnyH_done (by kernel_rfl) ?_ _
              refine NoPanic.normal ?_
              have HM := Lib.hid (ST.done HQ.out HLN.out HC0.out)
              go_wp2_with fail
              go_ret2
              exact .inl ⟨HC0.out, _, rfl, HM.out.1, HM.out.2⟩
            · skip
              refine n6 _ ST hn64 (by rfl) (.tmp 51) (by rfl) (by rfl) ?_
              intro g6 w6 ST
              refine hKK.out _ _ ?_ (fun hHeld2 => ?_)
              · try dsimp only
                try trivial
              clear hKK KK hHeld
              rename _ => hHeld
              try simp only [Act.put, List.setIfInBounds_toArray, List.set_cons_zero, List.set_cons_succ]
              refine wpAnyH_ready (rs := [3]) (by kernel_rfl) (by simp) ?_
              refine AllReadyH.cons (at_list rfl) (fun KK hKK => ?_) AllReadyH.nil
              refine n3 _ ST hm (by rfl) (.tmp 48) (by rfl) (by rfl) ?_
              intro g3 w3 ST
              refine hKK.out _ _ ?_ (fun hHeld2 => ?_)
              · try dsimp only
                try trivial
              clear hKK KK hHeld
              rename _ => hHeld
              try simp only [Act.put, List.setIfInBounds_toArray, List.set_cons_zero, List.set_cons_succ]
              refine wpAnyH_take (i := 10) (v := ?_) (at_list rfl) (by kernel_rfl) (by kernel_rfl) (by kernel_rfl) (fun _ _ _ h => h) (Or.inl ⟨by rfl, ?_⟩) (by assumption) ?_
              rotate_left
              · intro w hSw
                try dsimp only at hSw
                go_simp
                try with_reducible rfl
              simp only [Act.put, List.setIfInBounds_toArray, List.set_cons_zero, List.set_cons_succ]
              refine wpAnyH_ready (rs := [11]) (by kernel_rfl) (by simp) ?_
              refine AllReadyH.cons (at_list rfl) (fun KK hKK => ?_) AllReadyH.nil
              go_simp
              refine hKK.out _ _ ?_ (fun hHeld2 => ?_)
              · try dsimp only
                try trivial
              clear hKK KK hHeld
              rename _ => hHeld
              try simp only [Act.put, List.setIfInBounds_toArray, List.set_cons_zero, List.set_cons_succ]
              refine wpAnyH_take (i := 12) (v := ?_) (at_list rfl) (by kernel_rfl) (by kernel_rfl) (by kernel_rfl) (fun _ _ _ h => h) (Or.inl ⟨by rfl, ?_⟩) (by assumption) ?_
              rotate_left
              · intro w hSw
                try dsimp only at hSw
                go_simp
                try with_reducible rfl
              simp only [Act.put, List.setIfInBounds_toArray, List.set_cons_zero, List.set_cons_succ]
              refine wpAnyH_take (i := 13) (v := ?_) (at_list rfl) (by kernel_rfl) (by kernel_rfl) (by kernel_rfl) (fun _ _ _ h => h) (Or.inl ⟨by rfl, ?_⟩) (by assumption) ?_
              rotate_left
              · intro w hSw
                try dsimp only at hSw
                go_simp
                try with_reducible rfl
              simp only [Act.put, List.setIfInBounds_toArray, List.set_cons_zero, List.set_cons_succ]
              refine wpAnyH_done (by kernel_rfl) ?_ _
              refine NoPanic.normal ?_
              have HM := Lib.hid (ST.done HQ.out HLN.out HC0.out)
              go_wp2_with fail
              go_ret2
              exact .inl ⟨HC0.out, _, rfl, HM.out.1, HM.out.2⟩
      · skip
        refine n3 _ ST hm (by rfl) (.tmp 48) (by rfl) (by rfl) ?_
        intro g3 w3 ST
        refine hKK.out _ _ ?_ (fun hHeld2 => ?_)
        · try dsimp only
          try trivial
        clear hKK KK hHeld
        rename _ => hHeld
        try simp only [Act.put, List.setIfInBounds_toArray, List.set_cons_zero, List.set_cons_succ]
        refine wpAnyH_ready (rs := [1, 6, 7]) (by kernel_rfl) (by simp) ?_
        refine AllReadyH.cons (at_list rfl) (fun KK hKK => ?_) (AllReadyH.cons (at_list rfl) (fun KK hKK => ?_) (AllReadyH.cons (at_list rfl) (fun KK hKK => ?_) AllReadyH.nil))
        · skip
          refine n1 _ ST hL (by rfl) (.tmp 46) (by rfl) (by rfl) ?_
          intro g1 w1 ST
          refine hKK.out _ _ ?_ (fun hHeld2 => ?_)
          · try dsimp only
            try trivial
          clear hKK KK hHeld
          rename _ => hHeld
          try simp only [Act.put, List.setIfInBounds_toArray, List.set_cons_zero, List.set_cons_succ]
          refine wpAnyH_ready (rs := [6, 7]) (by kernel_rfl) (by simp) ?_
          refine AllReadyH.cons (at_list rfl) (fun KK hKK => ?_) (AllReadyH.cons (at_list rfl) (fun KK hKK => ?_) AllReadyH.nil)
          · skip
            refine n6 _ ST hn64 (by rfl) (.tmp 51) (by rfl) (by rfl) ?_
            intro g6 w6 ST
            refine hKK.out _ _ ?_ (fun hHeld2 => ?_)
            · try dsimp only
              try trivial
            clear hKK KK hHeld
            rename _ => hHeld
            try simp only [Act.put, List.setIfInBounds_toArray, List.set_cons_zero, List.set_cons_succ]
            refine wpAnyH_ready (rs := [7]) (by kernel_rfl) (by simp) ?_
            refine AllReadyH.cons (at_list rfl) (fun KK hKK => ?_) AllReadyH.nil
            refine n7 _ ST (by rfl) (by rfl) ?_
            intro g7 w7 ST
            refine hKK.out _ _ ?_ (fun hHeld2 => ?_)
            · try dsimp only
              try trivial
            clear hKK KK hHeld
            rename _ => hHeld
            try simp only [Act.put, List.setIfInBounds_toArray, List.set_cons_zero, List.set_cons_succ]
            refine wpAnyH_ready (rs := [9]) (by kernel_rfl) (by simp) ?_
            refine AllReadyH.cons (at_list rfl) (fun KK hKK => ?_) AllReadyH.nil
            refine n9 _ ST HQ.out hn16 HLN.out HSRC.out HNIL.out (by rfl) (.tmp 53) (.tmp 54) (by rfl) (by rfl) (by rfl) ?_
            intro A9 c9 w9 ST
            refine hKK.out _ _ ?_ (fun hHeld2 => ?_)
            · try dsimp only
              try trivial
            clear hKK KK hHeld
            rename _ => hHeld
            try simp only [Act.put, List.setIfInBounds_toArray, List.set_cons_zero, List.set_cons_succ]
            refine wpAnyH_take (i := 10) (v := ?_) (at_list rfl) (by kernel_rfl) (by kernel_rfl) (by kernel_rfl) (fun _ _ _ h => h) (Or.inl ⟨by rfl, ?_⟩) (by assumption) ?_
            rotate_left
            · intro w hSw
              try dsimp only at hSw
              go_simp
              try with_reducible rfl
            simp only [Act.put, List.setIfInBounds_toArray, List.set_cons_zero, List.set_cons_succ]
            refine wpAnyH_ready (rs := [11]) (by kernel_rfl) (by simp) ?_
            refine AllReadyH.cons (at_list rfl) (fun KK hKK => ?_) AllReadyH.nil
            go_simp
            refine hKK.out _ _ ?_ (fun hHeld2 => ?_)
            · try dsimp only
              try trivial
            clear hKK KK hHeld
            rename _ => hHeld
            try simp only [Act.put, List.setIfInBounds_toArray, List.set_cons_zero, List.set_cons_succ]
            refine wpAnyH_take (i := 12) (v := ?_) (at_list rfl) (by kernel_rfl) (by kernel_rfl) (by kernel_rfl) (fun _ _ _ h => h) (Or.inl ⟨by rfl, ?_⟩) (by assumption) ?_
            rotate_left
            · intro w hSw
              try dsimp only at hSw
              go_simp
              try with_reducible rfl
            simp only [Act.put, List.setIfInBounds_toArray, List.set_cons_zero, List.set_cons_succ]
            refine wpAnyH_take (i := 13) (v := ?_) (at_list rfl) (by kernel_rfl) (by kernel_rfl) (by kernel_rfl) (fun _ _ _ h => h) (Or.inl ⟨by rfl, ?_⟩) (by assumption) ?_
            rotate_left
            · intro w hSw
              try dsimp only at hSw
              go_simp
              try with_reducible rfl
            simp only [Act.put, List.setIfInBounds_toArray, List.set_cons_zero, List.set_cons_succ]
            refine wpAnyH_done (by kernel_rfl) ?_ _
            refine NoPanic.normal ?_
            have HM := Lib.hid (ST.done HQ.out HLN.out HC0.out)
            go_wp2_with fail
            go_ret2
            exact .inl ⟨HC0.out, _, rfl, HM.out.1, HM.out.2⟩
          · skip
            refine n7 _ ST (by rfl) (by rfl) ?_
            intro g7 w7 ST
            refine hKK.out _ _ ?_ (fun hHeld2 => ?_)
            · try dsimp only
              try trivial
            clear hKK KK hHeld
            rename _ => hHeld
            try simp only [Act.put, List.setIfInBounds_toArray, List.set_cons_zero, List.set_cons_succ]
            refine wpAnyH_ready (rs := [6, 9]) (by kernel_rfl) (by simp) ?_
            refine AllReadyH.cons (at_list rfl) (fun KK hKK => ?_) (AllReadyH.cons (at_list rfl) (fun KK hKK => ?_) AllReadyH.nil)
            · skip
              refine n6 _ ST hn64 (by rfl) (.tmp 51) (by rfl) (by rfl) ?_
              intro g6 w6 ST
              refine hKK.out _ _ ?_ (fun hHeld2 => ?_)
              · try dsimp only
                try trivial
              clear hKK KK hHeld
              rename _ => hHeld
              try simp only [Act.put, List.setIfInBounds_toArray, List.set_cons_zero, List.set_cons_succ]
              refine wpAnyH_ready (rs := [9]) (by kernel_rfl) (by simp) ?_
              refine AllReadyH.cons (at_list rfl) (fun KK hKK => ?_) AllReadyH.nil
              refine n9 _ ST HQ.out hn16 HLN.out HSRC.out HNIL.out (by rfl) (.tmp 53) (.tmp 54) (by rfl) (by rfl) (by rfl) ?_
              intro A9 c9 w9 ST
              refine hKK.out _ _ ?_ (fun hHeld2 => ?_)
              · try dsimp only
                try trivial
              clear hKK KK hHeld
              rename _ => hHeld
              try simp only [Act.put, List.setIfInBounds_toArray, List.set_cons_zero, List.set_cons_succ]
              refine wpAnyH_take (i := 10) (v := ?_) (at_list rfl) (by kernel_rfl) (by kernel_rfl) (by kernel_rfl) (fun _ _ _ h => h) (Or.inl ⟨by rfl, ?_⟩) (by assumption) ?_
              rotate_left
              · intro w hSw
                try dsimp only at hSw
                go_simp
                try with_reducible rfl
              simp only [Act.put, List.setIfInBounds_toArray, List.set_cons_zero, List.set_cons_succ]
              refine wpAnyH_ready (rs := [11]) (by kernel_rfl) (by simp) ?_
              refine AllReadyH.cons (at_list rfl) (fun KK hKK => ?_) AllReadyH.nil
              go_simp
              refine hKK.out _ _ ?_ (fun hHeld2 => ?_)
              · try dsimp only
                try trivial
              clear hKK KK hHeld
              rename _ => hHeld
              try simp only [Act.put, List.setIfInBounds_toArray, List.set_cons_zero, List.set_cons_succ]
              refine wpAnyH_take (i := 12) (v := ?_) (at_list rfl) (by kernel_rfl) (by kernel_rfl) (by kernel_rfl) (fun _ _ _ h => h) (Or.inl ⟨by rfl, ?_⟩) (by assumption) ?_
              rotate_left
              · intro w hSw
                try dsimp only at hSw
                go_simp
                try with_reducible rfl
              simp only [Act.put, List.setIfInBounds_toArray, List.set_cons_zero, List.set_cons_succ]
              refine wpAnyH_take (i := 13) (v := ?_) (at_list rfl) (by kernel_rfl) (by kernel_rfl) (by kernel_rfl) (fun _ _ _ h => h) (Or.inl ⟨by rfl, ?_⟩) (by assumption) ?_
              rotate_left
              · intro w hSw
                try dsimp only at hSw
                go_simp
                try with_reducible rfl
              simp only [Act.put, List.setIfInBounds_toArray, List.set_cons_zero, List.set_cons_succ]
              refine wpAnyH_done (by kernel_rfl) ?_ _
              refine NoPanic.normal ?_
              have HM := Lib.hid (ST.done HQ.out HLN.out HC0.out)
              go_wp2_with fail
              go_ret2
              exact .inl ⟨HC0.out, _, rfl, HM.out.1, HM.out.2⟩
            · skip
              refine n9 _ ST HQ.out hn16 HLN.out HSRC.out HNIL.out (by rfl) (.tmp 53) (.tmp 54) (by rfl) (by rfl) (by rfl) ?_
              intro A9 c9 w9 ST
              refine hKK.out _ _ ?_ (fun hHeld2 => ?_)
              · try dsimp only
                try trivial
              clear hKK KK hHeld
              rename _ => hHeld
              try simp only [Act.put, List.setIfInBounds_toArray, List.set_cons_zero, List.set_cons_succ]
              refine wpAnyH_ready (rs := [6]) (by kernel_rfl) (by simp) ?_
              refine AllReadyH.cons (at_list rfl) (fun KK hKK => ?_) AllReadyH.nil
              refine n6 _ ST hn64 (by rfl) (.tmp 51) (by rfl) (by rfl) ?_
              intro g6 w6 ST
              refine hKK.out _ _ ?_ (fun hHeld2 => ?_)
              · try dsimp only
                try trivial
              clear hKK KK hHeld
              rename _ => hHeld
              try simp only [Act.put, List.setIfInBounds_toArray, List.set_cons_zero, List.set_cons_succ]
              refine wpAnyH_take (i := 10) (v := ?_) (at_list rfl) (by kernel_rfl) (by kernel_rfl) (by kernel_rfl) (fun _ _ _ h => h) (Or.inl ⟨by rfl, ?_⟩) (by assumption) ?_
              rotate_left
              · intro w hSw
                try dsimp only at hSw
                go_simp
                try with_reducible rfl
              simp only [Act.put, List.setIfInBounds_toArray, List.set_cons_zero, List.set_cons_succ]
              refine wpAnyH_ready (rs := [11]) (by kernel_rfl) (by simp) ?_
              refine AllReadyH.cons (at_list rfl) (fun KK hKK => ?_) AllReadyH.nil
              go_simp
              refine hKK.out _ _ ?_ (fun hHeld2 => ?_)
              · try dsimp only
                try trivial
              clear hKK KK hHeld
              rename _ => hHeld
              try simp only [Act.put, List.setIfInBounds_toArray, List.set_cons_zero, List.set_cons_succ]
              refine wpAnyH_take (i := 12) (v := ?_) (at_list rfl) (by kernel_rfl) (by kernel_rfl) (by kernel_rfl) (fun _ _ _ h => h) (Or.inl ⟨by rfl, ?_⟩) (by assumption) ?_
              rotate_left
              · intro w hSw
                try dsimp only at hSw
                go_simp
                try with_reducible rfl
              simp only [Act.put, List.setIfInBounds_toArray, List.set_cons_zero, List.set_cons_succ]
              refine wpAnyH_take (i := 13) (v := ?_) (at_list rfl) (by kernel_rfl) (by kernel_rfl) (by kernel_rfl) (fun _ _ _ h => h) (Or.inl ⟨by rfl, ?_⟩) (by assumption) ?_
              rotate_left
              · intro w hSw
                try dsimp only at hSw
                go_simp
                try with_reducible rfl
              simp only [Act.put, List.setIfInBounds_toArray, List.set_cons_zero, List.set_cons_succ]
              refine wpAnyH_done (by kernel_rfl) ?_ _
              refine NoPanic.normal ?_
              have HM := Lib.hid (ST.done HQ.out HLN.out HC0.out)
              go_wp2_with fail
              go_ret2
              exact .inl ⟨HC0.out, _, rfl, HM.out.1, HM.out.2⟩
        · skip
          refine n6 _ ST hn64 (by rfl) (.tmp 51) (by rfl) (by rfl) ?_
          intro g6 w6 ST
          refine hKK.out _ _ ?_ (fun hHeld2 => ?_)
          · try dsimp only
            try trivial
          clear hKK KK hHeld
          rename _ => hHeld
          try simp only [Act.put, List.setIfInBounds_toArray, List.set_cons_zero, List.set_cons_succ]
          refine wpAnyH_ready (rs := [1, 7]) (by kernel_rfl) (by simp) ?_
          refine AllReadyH.cons (at_list rfl) (fun KK hKK => ?_) (AllReadyH.cons (at_list rfl) (fun KK hKK => ?_) AllReadyH.nil)
          · skip
            refine n1 _ ST hL (by rfl) (.tmp 46) (by rfl) (by rfl) ?_
            intro g1 w1 ST
            refine hKK.out _ _ ?_ (fun hHeld2 => ?_)
            · try dsimp only
              try trivial
            clear hKK KK hHeld
            rename _ => hHeld
            try simp only [Act.put, List.setIfInBounds_toArray, List.set_cons_zero, List.set_cons_succ]
            refine wpAnyH_ready (rs := [7]) (by kernel_rfl) (by simp) ?_
            refine AllReadyH.cons (at_list rfl) (fun KK hKK => ?_) AllReadyH.nil
            refine n7 _ ST (by rfl) (by rfl) ?_
            intro g7 w7 ST
            refine hKK.out _ _ ?_ (fun hHeld2 => ?_)
            · try dsimp only
              try trivial
            clear hKK KK hHeld
            rename _ => hHeld
            try simp only [Act.put, List.setIfInBounds_toArray, List.set_cons_zero, List.set_cons_succ]
            refine wpAnyH_ready (rs := [9]) (by kernel_rfl) (by simp) ?_
            refine AllReadyH.cons (at_list rfl) (fun KK hKK => ?_) AllReadyH.nil
            refine n9 _ ST HQ.out hn16 HLN.out HSRC.out HNIL.out (by rfl) (.tmp 53) (.tmp 54) (by rfl) (by rfl) (by rfl) ?_
            intro A9 c9 w9 ST
            refine hKK.out _ _ ?_ (fun hHeld2 => ?_)
            · try dsimp only
              try trivial
            clear hKK KK hHeld
            rename _ => hHeld
            try simp only [Act.put, List.setIfInBounds_toArray, List.set_cons_zero, List.set_cons_succ]
            refine wpAnyH_take (i := 10) (v := ?_) (at_list rfl) (by kernel_rfl) (by kernel_rfl) (by kernel_rfl) (fun _ _ _ h => h) (Or.inl ⟨by rfl, ?_⟩) (by assumption) ?_
            rotate_left
            · intro w hSw
              try dsimp only at hSw
              go_simp
              try with_reducible rfl
            simp only [Act.put, List.setIfInBounds_toArray, List.set_cons_zero, List.set_cons_succ]
            refine wpAnyH_ready (rs := [11]) (by kernel_rfl) (by simp) ?_
            refine AllReadyH.cons (at_list rfl) (fun KK hKK => ?_) AllReadyH.nil
            go_simp
            refine hKK.out _ _ ?_ (fun hHeld2 => ?_)
            · try dsimp only
              try trivial
            clear hKK KK hHeld
            rename _ => hHeld
            try simp only [Act.put, List.setIfInBounds_toArray, List.set_cons_zero, List.set_cons_succ]
            refine wpAnyH_take (i := 12) (v := ?_) (at_list rfl) (by kernel_rfl) (by kernel_rfl) (by kernel_rfl) (fun _ _ _ h => h) (Or.inl ⟨by rfl, ?_⟩) (by assumption) ?_
            rotate_left
            · intro w hSw
              try dsimp only at hSw
              go_simp
              try with_reducible rfl
            simp only [Act.put, List.setIfInBounds_toArray, List.set_cons_zero, List.set_cons_succ]
            refine wpAnyH_take (i := 13) (v := ?_) (at_list rfl) (by kernel_rfl) (by kernel_rfl) (by kernel_rfl) (fun _ _ _ h => h) (Or.inl ⟨by rfl, ?_⟩) (by assumption) ?_
            rotate_left
            · intro w hSw
              try dsimp only at hSw
              go_simp
              try with_reducible rfl
            simp only [Act.put, List.setIfInBounds_toArray, List.set_cons_zero, List.set_cons_succ]
            refine wpAnyH_done (by kernel_rfl) ?_ _
            refine NoPanic.normal ?_
            have HM := Lib.hid (ST.done HQ.out HLN.out HC0.out)
            go_wp2_with fail
            go_ret2
            exact .inl ⟨HC0.out, _, rfl, HM.out.1, HM.out.2⟩
          · skip
            refine n7 _ ST (by rfl) (by rfl) ?_
            intro g7 w7 ST
            refine hKK.out _ _ ?_ (fun hHeld2 => ?_)
            · try dsimp only
              try trivial
            clear hKK KK hHeld
            rename _ => hHeld
            try simp only [Act.put, List.setIfInBounds_toArray, List.set_cons_zero, List.set_cons_succ]
            refine wpAnyH_ready (rs := [1, 9]) (by kernel_rfl) (by simp) ?_
            refine AllReadyH.cons (at_list rfl) (fun KK hKK => ?_) (AllReadyH.cons (at_list rfl) (fun KK hKK => ?_) AllReadyH.nil)
            · skip
              refine n1 _ ST hL (by rfl) (.tmp 46) (by rfl) (by rfl) ?_
              intro g1 w1 ST
              refine hKK.out _ _ ?_ (fun hHeld2 => ?_)
              · try dsimp only
                try trivial
              clear hKK KK hHeld
              rename _ => hHeld
              try simp only [Act.put, List.setIfInBounds_toArray, List.set_cons_zero, List.set_cons_succ]
              refine wpAnyH_ready (rs := [9]) (by kernel_rfl) (by simp) ?_
              refine AllReadyH.cons (at_list rfl) (fun KK hKK => ?_) AllReadyH.nil
              refine n9 _ ST HQ.out hn16 HLN.out HSRC.out HNIL.out (by rfl) (.tmp 53) (.tmp 54) (by rfl) (by rfl) (by rfl) ?_
              intro A9 c9 w9 ST
              refine hKK.out _ _ ?_ (fun hHeld2 => ?_)
              · try dsimp only
                try trivial
              clear hKK KK hHeld
              rename _ => hHeld
              try simp only [Act.put, List.setIfInBounds_toArray, List.set_cons_zero, List.set_cons_succ]
              refine wpAnyH_take (i := 10) (v := ?_) (at_list rfl) (by kernel_rfl) (by kernel_rfl) (by kernel_rfl) (fun _ _ _ h => h) (Or.inl ⟨by rfl, ?_⟩) (by assumption) ?_
              rotate_left
              · intro w hSw
                try dsimp only at hSw
                go_simp
                try with_reducible rfl
              simp only [Act.put, List.setIfInBounds_toArray, List.set_cons_zero, List.set_cons_succ]
              refine wpAnyH_ready (rs := [11]) (by kernel_rfl) (by simp) ?_
              refine AllReadyH.cons (at_list rfl) (fun KK hKK => ?_) AllReadyH.nil
              go_simp
              refine hKK.out _ _ ?_ (fun hHeld2 => ?_)
              · try dsimp only
                try trivial
              clear hKK KK hHeld
              rename _ => hHeld
              try simp only [Act.put, List.setIfInBounds_toArray, List.set_cons_zero, List.set_cons_succ]
              refine wpAnyH_take (i := 12) (v := ?_) (at_list rfl) (by kernel_rfl) (by kernel_rfl) (by kernel_rfl) (fun _ _ _ h => h) (Or.inl ⟨by rfl, ?_⟩) (by assumption) ?_
              rotate_left
              · intro w hSw
                try dsimp only at hSw
                go_simp
                try with_reducible rfl
              simp only [Act.put, List.setIfInBounds_toArray, List.set_cons_zero, List.set_cons_succ]
              refine wpAnyH_take (i := 13) (v := ?_) (at_list rfl) (by kernel_rfl) (by kernel_rfl) (by kernel_rfl) (fun _ _ _ h => h) (Or.inl ⟨by rfl, ?_⟩) (by assumption) ?_
              rotate_left
              · intro w hSw
                try dsimp only at hSw
                go_simp
                try with_reducible rfl
              simp only [Act.put, List.setIfInBounds_toArray, List.set_cons_zero, List.set_cons_succ]
              refine wpAnyH_done (by kernel_rfl) ?_ _
              refine NoPanic.normal ?_
              have HM := Lib.hid (ST.done HQ.out HLN.out HC0.out)
              go_wp2_with fail
              go_ret2
              exact .inl ⟨HC0.out, _, rfl, HM.out.1, HM.out.2⟩
            · skip
              refine n9 _ ST HQ.out hn16 HLN.out HSRC.out HNIL.out (by rfl) (.tmp 53) (.tmp 54) (by rfl) (by rfl) (by rfl) ?_
              intro A9 c9 w9 ST
              refine hKK.out _ _ ?_ (fun hHeld2 => ?_)
              · try dsimp only
                try trivial
              clear hKK KK hHeld
              rename _ => hHeld
              try simp only [Act.put, List.setIfInBounds_toArray, List.set_cons_zero, List.set_cons_succ]
              refine wpAnyH_ready (rs := [1]) (by kernel_rfl) (by simp) ?_
              refine AllReadyH.cons (at_list rfl) (fun KK hKK => ?_) AllReadyH.nil
              refine n1 _ ST hL (by rfl) (.tmp 46) (by rfl) (by rfl) ?_
              intro g1 w1 ST
              refine hKK.out _ _ ?_ (fun hHeld2 => ?_)
              · try dsimp only
                try trivial
              clear hKK KK hHeld
              rename _ => hHeld
              try simp only [Act.put, List.setIfInBounds_toArray, List.set_cons_zero, List.set_cons_succ]
              refine wpAnyH_take (i := 10) (v := ?_) (at_list rfl) (by kernel_rfl) (by kernel_rfl) (by kernel_rfl) (fun _ _ _ h => h) (Or.inl ⟨by rfl, ?_⟩) (by assumption) ?_
              rotate_left
              · intro w hSw
                try dsimp only at hSw
                go_simp
                try with_reducible rfl
              simp only [Act.put, List.setIfInBounds_toArray, List.set_cons_zero, List.set_cons_succ]
              refine wpAnyH_ready (rs := [11]) (by kernel_rfl) (by simp) ?_
              refine AllReadyH.cons (at_list rfl) (fun KK hKK => ?_) AllReadyH.nil
              go_simp
              refine hKK.out _ _ ?_ (fun hHeld2 => ?_)
              · try dsimp only
                try trivial
              clear hKK KK hHeld
              rename _ => hHeld
              try simp only [Act.put, List.setIfInBounds_toArray, List.set_cons_zero, List.set_cons_succ]
              refine wpAnyH_take (i := 12) (v := ?_) (at_list rfl) (by kernel_rfl) (by kernel_rfl) (by kernel_rfl) (fun _ _ _ h => h) (Or.inl ⟨by rfl, ?_⟩) (by assumption) ?_
              rotate_left
              · intro w hSw
                try dsimp only at hSw
                go_simp
                try with_reducible rfl
              simp only [Act.put, List.setIfInBounds_toArray, List.set_cons_zero, List.set_cons_succ]
              refine wpAnyH_take (i := 13) (v := ?_) (at_list rfl) (by kernel_rfl) (by kernel_rfl) (by kernel_rfl) (fun _ _ _ h => h) (Or.inl ⟨by rfl, ?_⟩) (by assumption) ?_
              rotate_left
              · intro w hSw
                try dsimp only at hSw
                go_simp
                try with_reducible rfl
              simp only [Act.put, List.setIfInBounds_toArray, List.set_cons_zero, List.set_cons_succ]
              refine wpAnyH_done (by kernel_rfl) ?_ _
              refine NoPanic.normal ?_
              have HM := Lib.hid (ST.done HQ.out HLN.out HC0.out)
              go_wp2_with fail
              go_ret2
              exact .inl ⟨HC0.out, _, rfl, HM.out.1, HM.out.2⟩
        · skip
          refine n7 _ ST (by rfl) (by rfl) ?_
          intro g7 w7 ST
          refine hKK.out _ _ ?_ (fun hHeld2 => ?_)
          · try dsimp only
            try trivial
          clear hKK KK hHeld
          rename _ => hHeld
          try simp only [Act.put, List.setIfInBounds_toArray, List.set_cons_zero, List.set_cons_succ]
          refine wpAnyH_ready (rs := [1, 6, 9]) (by kernel_rfl) (by simp) ?_
          refine AllReadyH.cons (at_list rfl) (fun KK hKK => ?_) (AllReadyH.cons (at_list rfl) (fun KK hKK => ?_) (AllReadyH.cons (at_list rfl) (fun KK hKK => ?_) AllReadyH.nil))
          · skip
            refine n1 _ ST hL (by rfl) (.tmp 46) (by rfl) (by rfl) ?_
            intro g1 w1 ST
            refine hKK.out _ _ ?_ (fun hHeld2 => ?_)
            · try dsimp only
              try trivial
            clear hKK KK hHeld
            rename _ => hHeld
            try simp only [Act.put, List.setIfInBounds_toArray, List.set_cons_zero, List.set_cons_succ]
            refine wpAnyH_ready (rs := [6, 9]) (by kernel_rfl) (by simp) ?_
            refine AllReadyH.cons (at_list rfl) (fun KK hKK => ?_) (AllReadyH.cons (at_list rfl) (fun KK hKK => ?_) AllReadyH.nil)
            · skip
              refine n6 _ ST hn64 (by rfl) (.tmp 51) (by rfl) (by rfl) ?_
              intro g6 w6 ST
              refine hKK.out _ _ ?_ (fun hHeld2 => ?_)
              · try dsimp only
                try trivial
              clear hKK KK hHeld
              rename _ => hHeld
              try simp only [Act.put, List.setIfInBounds_toArray, List.set_cons_zero, List.set_cons_succ]
              refine wpAnyH_ready (rs := [9]) (by kernel_rfl) (by simp) ?_
              refine AllReadyH.cons (at_list rfl) (fun KK hKK => ?_) AllReadyH.nil
              refine n9 _ ST HQ.out hn16 HLN.out HSRC.out HNIL.out (by rfl) (.tmp 53) (.tmp 54) (by rfl) (by rfl) (by rfl) ?_
              intro A9 c9 w9 ST
              refine hKK.out _ _ ?_ (fun hHeld2 => ?_)
              · try dsimp only
                try trivial
              clear hKK KK hHeld
              rename _ => hHeld
              try simp only [Act.put, List.setIfInBounds_toArray, List.set_cons_zero, List.set_cons_succ]
              refine wpAnyH_take (i := 10) (v := ?_) (at_list rfl) (by kernel_rfl) (by kernel_rfl) (by kernel_rfl) (fun _ _ _ h => h) (Or.inl ⟨by rfl, ?_⟩) (by assumption) ?_
              rotate_left
              · intro w hSw
                try dsimp only at hSw
                go_simp
                try with_reducible rfl
              simp only [Act.put, List.setIfInBounds_toArray, List.set_cons_zero, List.set_cons_succ]
              refine wpAnyH_ready (rs := [11]) (by kernel_rfl) (by simp) ?_
              refine AllReadyH.cons (at_list rfl) (fun KK hKK => ?_) AllReadyH.nil
              go_simp
              refine hKK.out _ _ ?_ (fun hHeld2 => ?_)
              · try dsimp only
                try trivial
              clear hKK KK hHeld
              rename _ => hHeld
              try simp only [Act.put, List.setIfInBounds_toArray, List.set_cons_zero, List.set_cons_succ]
              refine wpAnyH_take (i := 12) (v := ?_) (at_list rfl) (by kernel_rfl) (by kernel_rfl) (by kernel_rfl) (fun _ _ _ h => h) (Or.inl ⟨by rfl, ?_⟩) (by assumption) ?_
              rotate_left
              · intro w hSw
                try dsimp only at hSw
                go_simp
                try with_reducible rfl
              simp only [Act.put, List.setIfInBounds_toArray, List.set_cons_zero, List.set_cons_succ]
              refine wpAnyH_take (i := 13) (v := ?_) (at_list rfl) (by kernel_rfl) (by kernel_rfl) (by kernel_rfl) (fun _ _ _ h => h) (Or.inl ⟨by rfl, ?_⟩) (by assumption) ?_
              rotate_left
              · intro w hSw
                try dsimp only at hSw
                go_simp
                try with_reducible rfl
              simp only [Act.put, List.setIfInBounds_toArray, List.set_cons_zero, List.set_cons_succ]
              refine wpAnyH_done (by kernel_rfl) ?_ _
              refine NoPanic.normal ?_
              have HM := Lib.hid (ST.done HQ.out HLN.out HC0.out)
              go_wp2_with fail
              go_ret2
              exact .inl ⟨HC0.out, _, rfl, HM.out.1, HM.out.2⟩
            · skip
              refine n9 _ ST HQ.out hn16 HLN.out HSRC.out HNIL.out (by rfl) (.tmp 53) (.tmp 54) (by rfl) (by rfl) (by rfl) ?_
              intro A9 c9 w9 ST
              refine hKK.out _ _ ?_ (fun hHeld2 => ?_)
              · try dsimp only
                try trivial
              clear hKK KK hHeld
              rename _ => hHeld
              try simp only [Act.put, List.setIfInBounds_toArray, List.set_cons_zero, List.set_cons_succ]
              refine wpAnyH_ready (rs := [6]) (by kernel_rfl) (by simp) ?_
              refine AllReadyH.cons (at_list rfl) (fun KK hKK => ?_) AllReadyH.nil
              refine n6 _ ST hn64 (by rfl) (.tmp 51) (by rfl) (by rfl) ?_
              intro g6 w6 ST
              refine hKK.out _ _ ?_ (fun hHeld2 => ?_)
              · try dsimp only
                try trivial
              clear hKK KK hHeld
              rename _ => hHeld
              try simp only [Act.put, List.setIfInBounds_toArray, List.set_cons_zero, List.set_cons_succ]
              refine wpAnyH_take (i := 10) (v := ?_) (at_list rfl) (by kernel_rfl) (by kernel_rfl) (by kernel_rfl) (fun _ _ _ h => h) (Or.inl ⟨by rfl, ?_⟩) (by assumption) ?_
              rotate_left
              · intro w hSw
                try dsimp only at hSw
                go_simp
                try with_reducible rfl
              simp only [Act.put, List.setIfInBounds_toArray, List.set_cons_zero, List.set_cons_succ]
              refine wpAnyH_ready (rs := [11]) (by kernel_rfl) (by simp) ?_
              refine AllReadyH.cons (at_list rfl) (fun KK hKK => ?_) AllReadyH.nil
              go_simp
              refine hKK.out _ _ ?_ (fun hHeld2 => ?_)
              · try dsimp only
                try trivial
              clear hKK KK hHeld
              rename _ => hHeld
              try simp only [Act.put, List.setIfInBounds_toArray, List.set_cons_zero, List.set_cons_succ]
              refine wpAnyH_take (i := 12) (v := ?_) (at_list rfl) (by kernel_rfl) (by kernel_rfl) (by kernel_rfl) (fun _ _ _ h => h) (Or.inl ⟨by rfl, ?_⟩) (by assumption) ?_
              rotate_left
              · intro w hSw
                try dsimp only at hSw
                go_simp
                try with_reducible rfl
              simp only [Act.put, List.setIfInBounds_toArray, List.set_cons_zero, List.set_cons_succ]
              refine wpAnyH_take (i := 13) (v := ?_) (at_list rfl) (by kernel_rfl) (by kernel_rfl) (by kernel_rfl) (fun _ _ _ h => h) (Or.inl ⟨by rfl, ?_⟩) (by assumption) ?_
              rotate_left
              · intro w hSw
                try dsimp only at hSw
                go_simp
                try with_reducible rfl
              simp only [Act.put, List.setIfInBounds_toArray, List.set_cons_zero, List.set_cons_succ]
              refine wpAnyH_done (by kernel_rfl) ?_ _
              refine NoPanic.normal ?_
              have HM := Lib.hid (ST.done HQ.out HLN.out HC0.out)
              go_wp2_with fail
              go_ret2
              exact .inl ⟨HC0.out, _, rfl, HM.out.1, HM.out.2⟩
          · skip
            refine n6 _ ST hn64 (by rfl) (.tmp 51) (by rfl) (by rfl) ?_
            intro g6 w6 ST
            refine hKK.out _ _ ?_ (fun hHeld2 => ?_)
            · try dsimp only
              try trivial
            clear hKK KK hHeld
            rename _ => hHeld
            try simp only [Act.put, List.setIfInBounds_toArray, List.set_cons_zero, List.set_cons_succ]
            refine wpAnyH_ready (rs := [1, 9]) (by kernel_rfl) (by simp) ?_
            refine AllReadyH.cons (at_list rfl) (fun KK hKK => ?_) (AllReadyH.cons (at_list rfl) (fun KK hKK => ?_) AllReadyH.nil)
            · skip
              refine n1 _ ST hL (by rfl) (.tmp 46) (by rfl) (by rfl) ?_
              intro g1 w1 ST
              refine hKK.out _ _ ?_ (fun hHeld2 => ?_)
              · try dsimp only
                try trivial
              clear hKK KK hHeld
              rename _ => hHeld
              try simp only [Act.put, List.setIfInBounds_toArray, List.set_cons_zero, List.set_cons_succ]
              refine wpAnyH_ready (rs := [9]) (by kernel_rfl) (by simp) ?_
              refine AllReadyH.cons (at_list rfl) (fun KK hKK => ?_) AllReadyH.nil
              refine n9 _ ST HQ.out hn16 HLN.out HSRC.out HNIL.out (by rfl) (.tmp 53) (.tmp 54) (by rfl) (by rfl) (by rfl) ?_
              intro A9 c9 w9 ST
              refine hKK.out _ _ ?_ (fun hHeld2 => ?_)
              · try dsimp only
                try trivial
              clear hKK KK hHeld
              rename _ => hHeld
              try simp only [Act.put, List.setIfInBounds_toArray, List.set_cons_zero, List.set_cons_succ]
              refine wpAnyH_take (i := 10) (v := ?_) (at_list rfl) (by kernel_rfl) (by kernel_rfl) (by kernel_rfl) (fun _ _ _ h => h) (Or.inl ⟨by rfl, ?_⟩) (by assumption) ?_
              rotate_left
              · intro w hSw
                try dsimp only at hSw
                go_simp
                try with_reducible rfl
              simp only [Act.put, List.setIfInBounds_toArray, List.set_cons_zero, List.set_cons_succ]
              refine wpAnyH_ready (rs := [11]) (by kernel_rfl) (by simp) ?_
              refine AllReadyH.cons (at_list rfl) (fun KK hKK => ?_) AllReadyH.nil
              go_simp
              refine hKK.out _ _ ?_ (fun hHeld2 => ?_)
              · try dsimp only
                try trivial
              clear hKK KK hHeld
              rename _ => hHeld
              try simp only [Act.put, List.setIfInBounds_toArray, List.set_cons_zero, List.set_cons_succ]
              refine wpAnyH_take (i := 12) (v := ?_) (at_list rfl) (by kernel_rfl) (by kernel_rfl) (by kernel_rfl) (fun _ _ _ h => h) (Or.inl ⟨by rfl, ?_⟩) (by assumption) ?_
              rotate_left
              · intro w hSw
                try dsimp only at hSw
                go_simp
                try with_reducible rfl
              simp only [Act.put, List.setIfInBounds_toArray, List.set_cons_zero, List.set_cons_succ]
              refine wpAnyH_take (i := 13) (v := ?_) (at_list rfl) (by kernel_rfl) (by kernel_rfl) (by kernel_rfl) (fun _ _ _ h => h) (Or.inl ⟨by rfl, ?_⟩) (by assumption) ?_
              rotate_left
              · intro w hSw
                try dsimp only at hSw
                go_simp
                try with_reducible rfl
              simp only [Act.put, List.setIfInBounds_toArray, List.set_cons_zero, List.set_cons_succ]
              refine wpAnyH_done (by kernel_rfl) ?_ _
              refine NoPanic.normal ?_
              have HM := Lib.hid (ST.done HQ.out HLN.out HC0.out)
              go_wp2_with fail
              go_ret2
              exact .inl ⟨HC0.out, _, rfl, HM.out.1, HM.out.2⟩
            · skip
              refine n9 _ ST HQ.out hn16 HLN.out HSRC.out HNIL.out (by rfl) (.tmp 53) (.tmp 54) (by rfl) (by rfl) (by rfl) ?_
              intro A9 c9 w9 ST
              refine hKK.out _ _ ?_ (fun hHeld2 => ?_)
              · try dsimp only
                try trivial
              clear hKK KK hHeld
              rename _ => hHeld
              try simp only [Act.put, List.setIfInBounds_toArray, List.set_cons_zero, List.set_cons_succ]
              refine wpAnyH_ready (rs := [1]) (by kernel_rfl) (by simp) ?_
              refine AllReadyH.cons (at_list rfl) (fun KK hKK => ?_) AllReadyH.nil
              refine n1 _ ST hL (by rfl) (.tmp 46) (by rfl) (by rfl) ?_
              intro g1 w1 ST
              refine hKK.out _ _ ?_ (fun hHeld2 => ?_)
              · try dsimp only
                try trivial
              clear hKK KK hHeld
              rename _ => hHeld
              try simp only [Act.put, List.setIfInBounds_toArray, List.set_cons_zero, List.set_cons_succ]
              refine wpAnyH_take (i := 10) (v := ?_) (at_list rfl) (by kernel_rfl) (by kernel_rfl) (by kernel_rfl) (fun _ _ _ h => h) (Or.inl ⟨by rfl, ?_⟩) (by assumption) ?_
              rotate_left
              · intro w hSw
                try dsimp only at hSw
                go_simp
                try with_reducible rfl
              simp only [Act.put, List.setIfInBounds_toArray, List.set_cons_zero, List.set_cons_succ]
              refine wpAnyH_ready (rs := [11]) (by kernel_rfl) (by simp) ?_
              refine AllReadyH.cons (at_list rfl) (fun KK hKK => ?_) AllReadyH.nil
              go_simp
              refine hKK.out _ _ ?_ (fun hHeld2 => ?_)
              · try dsimp only
                try trivial
              clear hKK KK hHeld
              rename _ => hHeld
              try simp only [Act.put, List.setIfInBounds_toArray, List.set_cons_zero, List.set_cons_succ]
              refine wpAnyH_take (i := 12) (v := ?_) (at_list rfl) (by kernel_rfl) (by kernel_rfl) (by kernel_rfl) (fun _ _ _ h => h) (Or.inl ⟨by rfl, ?_⟩) (by assumption) ?_
              rotate_left
              · intro w hSw
                try dsimp only at hSw
                go_simp
                try with_reducible rfl
              simp only [Act.put, List.setIfInBounds_toArray, List.set_cons_zero, List.set_cons_succ]
              refine wpAnyH_take (i := 13) (v := ?_) (at_list rfl) (by kernel_rfl) (by kernel_rfl) (by kernel_rfl) (fun _ _ _ h => h) (Or.inl ⟨by rfl, ?_⟩) (by assumption) ?_
              rotate_left
              · intro w hSw
                try dsimp only at hSw
                go_simp
                try with_reducible rfl
              simp only [Act.put, List.setIfInBounds_toArray, List.set_cons_zero, List.set_cons_succ]
              refine wpAnyH_done (by kernel_rfl) ?_ _
              refine NoPanic.normal ?_
              have HM := Lib.hid (ST.done HQ.out HLN.out HC0.out)
              go_wp2_with fail
              go_ret2
              exact .inl ⟨HC0.out, _, rfl, HM.out.1, HM.out.2⟩
          · skip
            refine n9 _ ST HQ.out hn16 HLN.out HSRC.out HNIL.out (by rfl) (.tmp 53) (.tmp 54) (by rfl) (by rfl) (by rfl) ?_
            intro A9 c9 w9 ST
            refine hKK.out _ _ ?_ (fun hHeld2 => ?_)
            · try dsimp only
              try trivial
            clear hKK KK hHeld
            rename _ => hHeld
            try simp only [Act.put, List.setIfInBounds_toArray, List.set_cons_zero, List.set_cons_succ]
            refine wpAnyH_ready (rs := [1, 6]) (by kernel_rfl) (by simp) ?_
            refine AllReadyH.cons (at_list rfl) (fun KK hKK => ?_) (AllReadyH.cons (at_list rfl) (fun KK hKK => ?_) AllReadyH.nil)
            · skip
              refine n1 _ ST hL (by rfl) (.tmp 46) (by rfl) (by rfl) ?_
              intro g1 w1 ST
              refine hKK.out _ _ ?_ (fun hHeld2 => ?_)
              · try dsimp only
                try trivial
              clear hKK KK hHeld
              rename _ => hHeld
              try simp only [Act.put, List.setIfInBounds_toArray, List.set_cons_zero, List.set_cons_succ]
              refine wpAnyH_ready (rs := [6]) (by kernel_rfl) (by simp) ?_
              refine AllReadyH.cons (at_list rfl) (fun KK hKK => ?_) AllReadyH.nil
              refine n6 _ ST hn64 (by rfl) (.tmp 51) (by rfl) (by rfl) ?_
              intro g6 w6 ST
              refine hKK.out _ _ ?_ (fun hHeld2 => ?_)
              · try dsimp only
                try trivial
              clear hKK KK hHeld
              rename _ => hHeld
              try simp only [Act.put, List.setIfInBounds_toArray, List.set_cons_zero, List.set_cons_succ]
              refine wpAnyH_take (i := 10) (v := ?_) (at_list rfl) (by kernel_rfl) (by kernel_rfl) (by kernel_rfl) (fun _ _ _ h => h) (Or.inl ⟨by rfl, ?_⟩) (by assumption) ?_
              rotate_left
              · intro w hSw
                try dsimp only at hSw
                go_simp
                try with_reducible rfl
              simp only [Act.put, List.setIfInBounds_toArray, List.set_cons_zero, List.set_cons_succ]
              refine wpAnyH_ready (rs := [11]) (by kernel_rfl) (by simp) ?_
              refine AllReadyH.cons (at_list rfl) (fun KK hKK => ?_) AllReadyH.nil
              go_simp
              refine hKK.out _ _ ?_ (fun hHeld2 => ?_)
              · try dsimp only
                try trivial
              clear hKK KK hHeld
              rename _ => hHeld
              try simp only [Act.put, List.setIfInBounds_toArray, List.set_cons_zero, List.set_cons_succ]
              refine wpAnyH_take (i := 12) (v := ?_) (at_list rfl) (by kernel_rfl) (by kernel_rfl) (by kernel_rfl) (fun _ _ _ h => h) (Or.inl ⟨by rfl, ?_⟩) (by assumption) ?_
              rotate_left
              · intro w hSw
                try dsimp only at hSw
                go_simp
                try with_reducible rfl
              simp only [Act.put, List.setIfInBounds_toArray, List.set_cons_zero, List.set_cons_succ]
              refine wpAnyH_take (i := 13) (v := ?_) (at_list rfl) (by kernel_rfl) (by kernel_rfl) (by kernel_rfl) (fun _ _ _ h => h) (Or.inl ⟨by rfl, ?_⟩) (by assumption) ?_
              rotate_left
              · intro w hSw
                try dsimp only at hSw
                go_simp
                try with_reducible rfl
              simp only [Act.put, List.setIfInBounds_toArray, List.set_cons_zero, List.set_cons_succ]
              refine wpAnyH_done (by kernel_rfl) ?_ _
              refine NoPanic.normal ?_
              have HM := Lib.hid (ST.done HQ.out HLN.out HC0.out)
              go_wp2_with fail
              go_ret2
              exact .inl ⟨HC0.out, _, rfl, HM.out.1, HM.out.2⟩
            · skip
              refine n6 _ ST hn64 (by rfl) (.tmp 51) (by rfl) (by rfl) ?_
              intro g6 w6 ST
              refine hKK.out _ _ ?_ (fun hHeld2 => ?_)
              · try dsimp only
                try trivial
              clear hKK KK hHeld
              rename _ => hHeld
              try simp only [Act.put, List.setIfInBounds_toArray, List.set_cons_zero, List.set_cons_succ]
              refine wpAnyH_ready (rs := [1]) (by kernel_rfl) (by simp) ?_
              refine AllReadyH.cons (at_list rfl) (fun KK hKK => ?_) AllReadyH.nil
              refine n1 _ ST hL (by rfl) (.tmp 46) (by rfl) (by rfl) ?_
              intro g1 w1 ST
              refine hKK.out _ _ ?_ (fun hHeld2 => ?_)
              · try dsimp only
                try trivial
              clear hKK KK hHeld
              rename _ => hHeld
              try simp only [Act.put, List.setIfInBounds_toArray, List.set_cons_zero, List.set_cons_succ]
              refine wpAnyH_take (i := 10) (v := ?_) (at_list rfl) (by kernel_rfl) (by kernel_rfl) (by kernel_rfl) (fun _ _ _ h => h) (Or.inl ⟨by rfl, ?_⟩) (by assumption) ?_
              rotate_left
              · intro w hSw
                try dsimp only at hSw
                go_simp
                try with_reducible rfl
              simp only [Act.put, List.setIfInBounds_toArray, List.set_cons_zero, List.set_cons_succ]
              refine wpAnyH_ready (rs := [11]) (by kernel_rfl) (by simp) ?_
              refine AllReadyH.cons (at_list rfl) (fun KK hKK => ?_) AllReadyH.nil
              go_simp
              refine hKK.out _ _ ?_ (fun hHeld2 => ?_)
              · try dsimp only
                try trivial
              clear hKK KK hHeld
              rename _ => hHeld
              try simp only [Act.put, List.setIfInBounds_toArray, List.set_cons_zero, List.set_cons_succ]
              refine wpAnyH_take (i := 12) (v := ?_) (at_list rfl) (by kernel_rfl) (by kernel_rfl) (by kernel_rfl) (fun _ _ _ h => h) (Or.inl ⟨by rfl, ?_⟩) (by assumption) ?_
              rotate_left
              · intro w hSw
                try dsimp only at hSw
                go_simp
                try with_reducible rfl
              simp only [Act.put, List.setIfInBounds_toArray, List.set_cons_zero, List.set_cons_succ]
              refine wpAnyH_take (i := 13) (v := ?_) (at_list rfl) (by kernel_rfl) (by kernel_rfl) (by kernel_rfl) (fun _ _ _ h => h) (Or.inl ⟨by rfl, ?_⟩) (by assumption) ?_
              rotate_left
              · intro w hSw
                try dsimp only at hSw
                go_simp
                try with_reducible rfl
              simp only [Act.put, List.setIfInBounds_toArray, List.set_cons_zero, List.set_cons_succ]
              refine wpAnyH_done (by kernel_rfl) ?_ _
              refine NoPanic.normal ?_
              have HM := Lib.hid (ST.done HQ.out HLN.out HC0.out)
              go_wp2_with fail
              go_ret2
              exact .inl ⟨HC0.out, _, rfl, HM.out.1, HM.out.2⟩
      · skip
        refine n6 _ ST hn64 (by rfl) (.tmp 51) (by rfl) (by rfl) ?_
        intro g6 w6 ST
        refine hKK.out _ _ ?_ (fun hHeld2 => ?_)
        · try dsimp only
          try trivial
        clear hKK KK hHeld
        rename _ => hHeld
        try simp only [Act.put, List.setIfInBounds_toArray, List.set_cons_zero, List.set_cons_succ]
        refine wpAnyH_ready (rs := [1, 3, 7]) (by kernel_rfl) (by simp) ?_
        refine AllReadyH.cons (at_list rfl) (fun KK hKK => ?_) (AllReadyH.cons (at_list rfl) (fun KK hKK => ?_) (AllReadyH.cons (at_list rfl) (fun KK hKK => ?_) AllReadyH.nil))
        · skip
          refine n1 _ ST hL (by rfl) (.tmp 46) (by rfl) (by rfl) ?_
          intro g1 w1 ST
          refine hKK.out _ _ ?_ (fun hHeld2 => ?_)
          · try dsimp only
            try trivial
          clear hKK KK hHeld
          rename _ => hHeld
          try simp only [Act.put, List.setIfInBounds_toArray, List.set_cons_zero, List.set_cons_succ]
          refine wpAnyH_ready (rs := [3, 7]) (by kernel_rfl) (by simp) ?_
          refine AllReadyH.cons (at_list rfl) (fun KK hKK => ?_) (AllReadyH.cons (at_list rfl) (fun KK hKK => ?_) AllReadyH.nil)
          · skip
            refine n3 _ ST hm (by rfl) (.tmp 48) (by rfl) (by rfl) ?_
            intro g3 w3 ST
            refine hKK.out _ _ ?_ (fun hHeld2 => ?_)
            · try dsimp only
              try trivial
            clear hKK KK hHeld
            rename _ => hHeld
            try simp only [Act.put, List.setIfInBounds_toArray, List.set_cons_zero, List.set_cons_succ]
            refine wpAnyH_ready (rs := [7]) (by kernel_rfl) (by simp) ?_
            refine AllReadyH.cons (at_list rfl) (fun KK hKK => ?_) AllReadyH.nil
            refine n7 _ ST (by rfl) (by rfl) ?_
            intro g7 w7 ST
            refine hKK.out _ _ ?_ (fun hHeld2 => ?_)
            · try dsimp only
              try trivial
            clear hKK KK hHeld
            rename _ => hHeld
            try simp only [Act.put, List.setIfInBounds_toArray, List.set_cons_zero, List.set_cons_succ]
            refine wpAnyH_ready (rs := [9]) (by kernel_rfl) (by simp) ?_
            refine AllReadyH.cons (at_list rfl) (fun KK hKK => ?_) AllReadyH.nil
            refine n9 _ ST HQ.out hn16 HLN.out HSRC.out HNIL.out (by rfl) (.tmp 53) (.tmp 54) (by rfl) (by rfl) (by rfl) ?_
            intro A9 c9 w9 ST
            refine hKK.out _ _ ?_ (fun hHeld2 => ?_)
            · try dsimp only
              try trivial
            clear hKK KK hHeld
            rename _ => hHeld
            try simp only [Act.put, List.setIfInBounds_toArray, List.set_cons_zero, List.set_cons_succ]
            refine wpAnyH_take (i := 10) (v := ?_) (at_list rfl) (by kernel_rfl) (by kernel_rfl) (by kernel_rfl) (fun _ _ _ h => h) (Or.inl ⟨by rfl, ?_⟩) (by assumption) ?_
            rotate_left
            · intro w hSw
              try dsimp only at hSw
              go_simp
              try with_reducible rfl
            simp only [Act.put, List.setIfInBounds_toArray, List.set_cons_zero, List.set_cons_succ]
            refine wpAnyH_ready (rs := [11]) (by kernel_rfl) (by simp) ?_
            refine AllReadyH.cons (at_list rfl) (fun KK hKK => ?_) AllReadyH.nil
            go_simp
            refine hKK.out _ _ ?_ (fun hHeld2 => ?_)
            · try dsimp only
              try trivial
            clear hKK KK hHeld
            rename _ => hHeld
            try simp only [Act.put, List.setIfInBounds_toArray, List.set_cons_zero, List.set_cons_succ]
            refine wpAnyH_take (i := 12) (v := ?_) (at_list rfl) (by kernel_rfl) (by kernel_rfl) (by kernel_rfl) (fun _ _ _ h => h) (Or.inl ⟨by rfl, ?_⟩) (by assumption) ?_
            rotate_left
            · intro w hSw
              try dsimp only at hSw
              go_simp
              try with_reducible rfl
            simp only [Act.put, List.setIfInBounds_toArray, List.set_cons_zero, List.set_cons_succ]
            refine wpAnyH_take (i := 13) (v := ?_) (at_list rfl) (by kernel_rfl) (by kernel_rfl) (by kernel_rfl) (fun _ _ _ h => h) (Or.inl ⟨by rfl, ?_⟩) (by assumption) ?_
            rotate_left
            · intro w hSw
              try dsimp only at hSw
              go_simp
              try with_reducible rfl
            simp only [Act.put, List.setIfInBounds_toArray, List.set_cons_zero, List.set_cons_succ]
            refine wpAnyH_done (by kernel_rfl) ?_ _
            refine NoPanic.normal ?_
            have HM := Lib.hid (ST.done HQ.out HLN.out HC0.out)
            go_wp2_with fail
            go_ret2
            exact .inl ⟨HC0.out, _, rfl, HM.out.1, HM.out.2⟩
          · skip
            refine n7 _ ST (by rfl) (by rfl) ?_
            intro g7 w7 ST
            refine hKK.out _ _ ?_ (fun hHeld2 => ?_)
            · try dsimp only
              try trivial
            clear hKK KK hHeld
            rename _ => hHeld
            try simp only [Act.put, List.setIfInBounds_toArray, List.set_cons_zero, List.set_cons_succ]
            refine wpAnyH_ready (rs := [3, 9]) (by kernel_rfl) (by simp) ?_
            refine AllReadyH.cons (at_list rfl) (fun KK hKK => ?_) (AllReadyH.cons (at_list rfl) (fun KK hKK => ?_) AllReadyH.nil)
            · skip
              refine n3 _ ST hm (by rfl) (.tmp 48) (by rfl) (by rfl) ?_
              intro g3 w3 ST
              refine hKK.out _ _ ?_ (fun hHeld2 => ?_)
              · try dsimp only
                try trivial
              clear hKK KK hHeld
              rename _ => hHeld
              try simp only [Act.put, List.setIfInBounds_toArray, List.set_cons_zero, List.set_cons_succ]
              refine wpAnyH_ready (rs := [9]) (by kernel_rfl) (by simp) ?_
              refine AllReadyH.cons (at_list rfl) (fun KK hKK => ?_) AllReadyH.nil
              refine n9 _ ST HQ.out hn16 HLN.out HSRC.out HNIL.out (by rfl) (.tmp 53) (.tmp 54) (by rfl) (by rfl) (by rfl) ?_
              intro A9 c9 w9 ST
              refine hKK.out _ _ ?_ (fun hHeld2 => ?_)
              · try dsimp only
                try trivial
              clear hKK KK hHeld
              rename _ => hHeld
              try simp only [Act.put, List.setIfInBounds_toArray, List.set_cons_zero, List.set_cons_succ]
              refine wpAnyH_take (i := 10) (v := ?_) (at_list rfl) (by kernel_rfl) (by kernel_rfl) (by kernel_rfl) (fun _ _ _ h => h) (Or.inl ⟨by rfl, ?_⟩) (by assumption) ?_
              rotate_left
              · intro w hSw
                try dsimp only at hSw
                go_simp
                try with_reducible rfl
              simp only [Act.put, List.setIfInBounds_toArray, List.set_cons_zero, List.set_cons_succ]
              refine wpAnyH_ready (rs := [11]) (by kernel_rfl) (by simp) ?_
              refine AllReadyH.cons (at_list rfl) (fun KK hKK => ?_) AllReadyH.nil
              go_simp
              refine hKK.out _ _ ?_ (fun hHeld2 => ?_)
              · try dsimp only
                try trivial
              clear hKK KK hHeld
              rename _ => hHeld
              try simp only [Act.put, List.setIfInBounds_toArray, List.set_cons_zero, List.set_cons_succ]
              refine wpAnyH_take (i := 12) (v := ?_) (at_list rfl) (by kernel_rfl) (by kernel_rfl) (by kernel_rfl) (fun _ _ _ h => h) (Or.inl ⟨by rfl, ?_⟩) (by assumption) ?_
              rotate_left
              · intro w hSw
                try dsimp only at hSw
                go_simp
                try with_reducible rfl
              simp only [Act.put, List.setIfInBounds_toArray, List.set_cons_zero, List.set_cons_succ]
              refine wpAnyH_take (i := 13) (v := ?_) (at_list rfl) (by kernel_rfl) (by kernel_rfl) (by kernel_rfl) (fun _ _ _ h => h) (Or.inl ⟨by rfl, ?_⟩) (by assumption) ?_
              rotate_left
              · intro w hSw
                try dsimp only at hSw
                go_simp
                try with_reducible rfl
              simp only [Act.put, List.setIfInBounds_toArray, List.set_cons_zero, List.set_cons_succ]
              refine wpAnyH_done (by kernel_rfl) ?_ _
              refine NoPanic.normal ?_
              have HM := Lib.hid (ST.done HQ.out HLN.out HC0.out)
              go_wp2_with fail
              go_ret2
              exact .inl ⟨HC0.out, _, rfl, HM.out.1, HM.out.2⟩
            · skip
              refine n9 _ ST HQ.out hn16 HLN.out HSRC.out HNIL.out (by rfl) (.tmp 53) (.tmp 54) (by rfl) (by rfl) (by rfl) ?_
              intro A9 c9 w9 ST
              refine hKK.out _ _ ?_ (fun hHeld2 => ?_)
              · try dsimp only
                try trivial
              clear hKK KK hHeld
              rename _ => hHeld
              try simp only [Act.put, List.setIfInBounds_toArray, List.set_cons_zero, List.set_cons_succ]
              refine wpAnyH_ready (rs := [3]) (by kernel_rfl) (by simp) ?_
              refine AllReadyH.cons (at_list rfl) (fun KK hKK => ?_) AllReadyH.nil
              refine n3 _ ST hm (by rfl) (.tmp 48) (by rfl) (by rfl) ?_
              intro g3 w3 ST
              refine hKK.out _ _ ?_ (fun hHeld2 => ?_)
              · try dsimp only
                try trivial
              clear hKK KK hHeld
              rename _ => hHeld
              try simp only [Act.put, List.setIfInBounds_toArray, List.set_cons_zero, List.set_cons_succ]
              refine wpAnyH_take (i := 10) (v := ?_) (at_list rfl) (by kernel_rfl) (by kernel_rfl) (by kernel_rfl) (fun _ _ _ h => h) (Or.inl ⟨by rfl, ?_⟩) (by assumption) ?_
              rotate_left
              · intro w hSw
                try dsimp only at hSw
                go_simp
                try with_reducible rfl
              simp only [Act.put, List.setIfInBounds_toArray, List.set_cons_zero, List.set_cons_succ]
              refine wpAnyH_ready (rs := [11]) (by kernel_rfl) (by simp) ?_
              refine AllReadyH.cons (at_list rfl) (fun KK hKK => ?_) AllReadyH.nil
              go_simp
              refine hKK.out _ _ ?_ (fun hHeld2 => ?_)
              · try dsimp only
                try trivial
              clear hKK KK hHeld
              rename _ => hHeld
              try simp only [Act.put, List.setIfInBounds_toArray, List.set_cons_zero, List.set_cons_succ]
              refine wpAnyH_take (i := 12) (v := ?_) (at_list rfl) (by kernel_rfl) (by kernel_rfl) (by kernel_rfl) (fun _ _ _ h => h) (Or.inl ⟨by rfl, ?_⟩) (by assumption) ?_
              rotate_left
              · intro w hSw
                try dsimp only at hSw
                go_simp
                try with_reducible rfl
              simp only [Act.put, List.setIfInBounds_toArray, List.set_cons_zero, List.set_cons_succ]
              refine wpAnyH_take (i := 13) (v := ?_) (at_list rfl) (by kernel_rfl) (by kernel_rfl) (by kernel_rfl) (fun _ _ _ h => h) (Or.inl ⟨by rfl, ?_⟩) (by assumption) ?_
              rotate_left
              · intro w hSw
                try dsimp only at hSw
                go_simp
                try with_reducible rfl
              simp only [Act.put, List.setIfInBounds_toArray, List.set_cons_zero, List.set_cons_succ]
              refine wpAnyH_done (by kernel_rfl) ?_ _
              refine NoPanic.normal ?_
              have HM := Lib.hid (ST.done HQ.out HLN.out HC0.out)
              go_wp2_with fail
              go_ret2
              exact .inl ⟨HC0.out, _, rfl, HM.out.1, HM.out.2⟩
        · skip
          refine n3 _ ST hm (by rfl) (.tmp 48) (by rfl) (by rfl) ?_
          intro g3 w3 ST
          refine hKK.out _ _ ?_ (fun hHeld2 => ?_)
          · try dsimp only
            try trivial
          clear hKK KK hHeld
          rename _ => hHeld
          try simp only [Act.put, List.setIfInBounds_toArray, List.set_cons_zero, List.set_cons_succ]
          refine wpAnyH_ready (rs := [1, 7]) (by kernel_rfl) (by simp) ?_
          refine AllReadyH.cons (at_list rfl) (fun KK hKK => ?_) (AllReadyH.cons (at_list rfl) (fun KK hKK => ?_) AllReadyH.nil)
          · skip
            refine n1 _ ST hL (by rfl) (.tmp 46) (by rfl) (by rfl) ?_
            intro g1 w1 ST
            refine hKK.out _ _ ?_ (fun hHeld2 => ?_)
            · try dsimp only
              try trivial
            clear hKK KK hHeld
            rename _ => hHeld
            try simp only [Act.put, List.setIfInBounds_toArray, List.set_cons_zero, List.set_cons_succ]
            refine wpAnyH_ready (rs := [7]) (by kernel_rfl) (by simp) ?_
            refine AllReadyH.cons (at_list rfl) (fun KK hKK => ?_) AllReadyH.nil
            refine n7 _ ST (by rfl) (by rfl) ?_
            intro g7 w7 ST
            refine hKK.out _ _ ?_ (fun hHeld2 => ?_)
            · try dsimp only
              try trivial
            clear hKK KK hHeld
            rename _ => hHeld
            try simp only [Act.put, List.setIfInBounds_toArray, List.set_cons_zero, List.set_cons_succ]
            refine wpAnyH_ready (rs := [9]) (by kernel_rfl) (by simp) ?_
            refine AllReadyH.cons (at_list rfl) (fun KK hKK => ?_) AllReadyH.nil
            refine n9 _ ST HQ.out hn16 HLN.out HSRC.out HNIL.out (by rfl) (.tmp 53) (.tmp 54) (by rfl) (by rfl) (by rfl) ?_
            intro A9 c9 w9 ST
            refine hKK.out _ _ ?_ (fun hHeld2 => ?_)
            · try dsimp only
              try trivial
            clear hKK KK hHeld
            rename _ => hHeld
            try simp only [Act.put, List.setIfInBounds_toArray, List.set_cons_zero, List.set_cons_succ]
            refine wpAnyH_take (i := 10) (v := ?_) (at_list rfl) (by kernel_rfl) (by kernel_rfl) (by kernel_rfl) (fun _ _ _ h => h) (Or.inl ⟨by rfl, ?_⟩) (by assumption) ?_
            rotate_left
            · intro w hSw
              try dsimp only at hSw
              go_simp
              try with_reducible rfl
            simp only [Act.put, List.setIfInBounds_toArray, List.set_cons_zero, List.set_cons_succ]
            refine wpAnyH_ready (rs := [11]) (by kernel_rfl) (by simp) ?_
            refine AllReadyH.cons (at_list rfl) (fun KK hKK => ?_) AllReadyH.nil
            go_simp
            refine hKK.out _ _ ?_ (fun hHeld2 => ?_)
            · try dsimp only
              try trivial
            clear hKK KK hHeld
            rename _ => hHeld
            try simp only [Act.put, List.setIfInBounds_toArray, List.set_cons_zero, List.set_cons_succ]
            refine wpAnyH_take (i := 12) (v := ?_) (at_list rfl) (by kernel_rfl) (by kernel_rfl) (by kernel_rfl) (fun _ _ _ h => h) (Or.inl ⟨by rfl, ?_⟩) (by assumption) ?_
            rotate_left
            · intro w hSw
              try dsimp only at hSw
              go_simp
              try with_reducible rfl
            simp only [Act.put, List.setIfInBounds_toArray, List.set_cons_zero, List.set_cons_succ]
            refine wpAnyH_take (i := 13) (v := ?_) (at_list rfl) (by kernel_rfl) (by kernel_rfl) (by kernel_rfl) (fun _ _ _ h => h) (Or.inl ⟨by rfl, ?_⟩) (by assumption) ?_
            rotate_left
            · intro w hSw
              try dsimp only at hSw
              go_simp
              try with_reducible rfl
            simp only [Act.put, List.setIfInBounds_toArray, List.set_cons_zero, List.set_cons_succ]
            refine wpAnyH_done (by kernel_rfl) ?_ _
            refine NoPanic.normal ?_
            have HM := Lib.hid (ST.done HQ.out HLN.out HC0.out)
            go_wp2_with fail
            go_ret2
            exact .inl ⟨HC0.out, _, rfl, HM.out.1, HM.out.2⟩
          · skip
            refine n7 _ ST (by rfl) (by rfl) ?_
            intro g7 w7 ST
            refine hKK.out _ _ ?_ (fun hHeld2 => ?_)
            · try dsimp only
              try trivial
            clear hKK KK hHeld
            rename _ => hHeld
            try simp only [Act.put, List.setIfInBounds_toArray, List.set_cons_zero, List.set_cons_succ]
            refine wpAnyH_ready (rs := [1, 9]) (by kernel_rfl) (by simp) ?_
            refine AllReadyH.cons (at_list rfl) (fun KK hKK => ?_) (AllReadyH.cons (at_list rfl) (fun KK hKK => ?_) AllReadyH.nil)
            · skip
              refine n1 _ ST hL (by rfl) (.tmp 46) (by rfl) (by rfl) ?_
              intro g1 w1 ST
              refine hKK.out _ _ ?_ (fun hHeld2 => ?_)
              · try dsimp only
                try trivial
              clear hKK KK hHeld
              rename _ => hHeld
              try simp only [Act.put, List.setIfInBounds_toArray, List.set_cons_zero, List.set_cons_succ]
              refine wpAnyH_ready (rs := [9]) (by kernel_rfl) (by simp) ?_
              refine AllReadyH.cons (at_list rfl) (fun KK hKK => ?_) AllReadyH.nil
              refine n9 _ ST HQ.out hn16 HLN.out HSRC.out HNIL.out (by rfl) (.tmp 53) (.tmp 54) (by rfl) (by rfl) (by rfl) ?_
              intro A9 c9 w9 ST
              refine hKK.out _ _ ?_ (fun hHeld2 => ?_)
              · try dsimp only
                try trivial
              clear hKK KK hHeld
              rename _ => hHeld
              try simp only [Act.put, List.setIfInBounds_toArray, List.set_cons_zero, List.set_cons_succ]
              refine wpAnyH_take (i := 10) (v := ?_) (at_list rfl) (by kernel_rfl) (by kernel_rfl) (by kernel_rfl) (fun _ _ _ h => h) (Or.inl ⟨by rfl, ?_⟩) (by assumption) ?_
              rotate_left
              · intro w hSw
                try dsimp only at hSw
                go_simp
                try with_reducible rfl
              simp only [Act.put, List.setIfInBounds_toArray, List.set_cons_zero, List.set_cons_succ]
              refine wpAnyH_ready (rs := [11]) (by kernel_rfl) (by simp) ?_
              refine AllReadyH.cons (at_list rfl) (fun KK hKK => ?_) AllReadyH.nil
              go_simp
              refine hKK.out _ _ ?_ (fun hHeld2 => ?_)
              · try dsimp only
                try trivial
              clear hKK KK hHeld
              rename _ => hHeld
              try simp only [Act.put, List.setIfInBounds_toArray, List.set_cons_zero, List.set_cons_succ]
              refine wpAnyH_take (i := 12) (v := ?_) (at_list rfl) (by kernel_rfl) (by kernel_rfl) (by kernel_rfl) (fun _ _ _ h => h) (Or.inl ⟨by rfl, ?_⟩) (by assumption) ?_
              rotate_left
              · intro w hSw
                try dsimp only at hSw
                go_simp
                try with_reducible rfl
              simp only [Act.put, List.setIfInBounds_toArray, List.set_cons_zero, List.set_cons_succ]
              refine wpAnyH_take (i := 13) (v := ?_) (at_list rfl) (by kernel_rfl) (by kernel_rfl) (by kernel_rfl) (fun _ _ _ h => h) (Or.inl ⟨by rfl, ?_⟩) (by assumption) ?_
              rotate_left
              · intro w hSw
                try dsimp only at hSw
                go_simp
                try with_reducible rfl
              simp only [Act.put, List.setIfInBounds_toArray, List.set_cons_zero, List.set_cons_succ]
              refine wpAnyH_done (by kernel_rfl) ?_ _
              refine NoPanic.normal ?_
              have HM := Lib.hid (ST.done HQ.out HLN.out HC0.out)
              go_wp2_with fail
              go_ret2
              exact .inl ⟨HC0.out, _, rfl, HM.out.1, HM.out.2⟩
            · skip
              refine n9 _ ST HQ.out hn16 HLN.out HSRC.out HNIL.out (by rfl) (.tmp 53) (.tmp 54) (by rfl) (by rfl) (by rfl) ?_
              intro A9 c9 w9 ST
              refine hKK.out _ _ ?_ (fun hHeld2 => ?_)
              · try dsimp only
                try trivial
              clear hKK KK hHeld
              rename _ => hHeld
              try simp only [Act.put, List.setIfInBounds_toArray, List.set_cons_zero, List.set_cons_succ]
              refine wpAnyH_ready (rs := [1]) (by kernel_rfl) (by simp) ?_
              refine AllReadyH.cons (at_list rfl) (fun KK hKK => ?_) AllReadyH.nil
              refine n1 _ ST hL (by rfl) (.tmp 46) (by rfl) (by rfl) ?_
              intro g1 w1 ST
              refine hKK.out _ _ ?_ (fun hHeld2 => ?_)
              · try dsimp only
                try trivial
              clear hKK KK hHeld
              rename _ => hHeld
              try simp only [Act.put, List.setIfInBounds_toArray, List.set_cons_zero, List.set_cons_succ]
              refine wpAnyH_take (i := 10) (v := ?_) (at_list rfl) (by kernel_rfl) (by kernel_rfl) (by kernel_rfl) (fun _ _ _ h => h) (Or.inl ⟨by rfl, ?_⟩) (by assumption) ?_
              rotate_left
              · intro w hSw
                try dsimp only at hSw
                go_simp
                try with_reducible rfl
              simp only [Act.put, List.setIfInBounds_toArray, List.set_cons_zero, List.set_cons_succ]
              refine wpAnyH_ready (rs := [11]) (by kernel_rfl) (by simp) ?_
              refine AllReadyH.cons (at_list rfl) (fun KK hKK => ?_) AllReadyH.nil
              go_simp
              refine hKK.out _ _ ?_ (fun hHeld2 => ?_)
              · try dsimp only
                try trivial
              clear hKK KK hHeld
              rename _ => hHeld
              try simp only [Act.put, List.setIfInBounds_toArray, List.set_cons_zero, List.set_cons_succ]
              refine wpAnyH_take (i := 12) (v := ?_) (at_list rfl) (by kernel_rfl) (by kernel_rfl) (by kernel_rfl) (fun _ _ _ h => h) (Or.inl ⟨by rfl, ?_⟩) (by assumption) ?_
              rotate_left
              · intro w hSw
                try dsimp only at hSw
                go_simp
                try with_reducible rfl
              simp only [Act.put, List.setIfInBounds_toArray, List.set_cons_zero, List.set_cons_succ]
              refine wpAnyH_take (i := 13) (v := ?_) (at_list rfl) (by kernel_rfl) (by kernel_rfl) (by kernel_rfl) (fun _ _ _ h => h) (Or.inl ⟨by rfl, ?_⟩) (by assumption) ?_
              rotate_left
              · intro w hSw
                try dsimp only at hSw
                go_simp
                try with_reducible rfl
              simp only [Act.put, List.setIfInBounds_toArray, List.set_cons_zero, List.set_cons_succ]
              refine wpAnyH_done (by kernel_rfl) ?_ _
              refine NoPanic.normal ?_
              have HM := Lib.hid (ST.done HQ.out HLN.out HC0.out)
              go_wp2_with fail
              go_ret2
              exact .inl ⟨HC0.out, _, rfl, HM.out.1, HM.out.2⟩
        · skip
          refine n7 _ ST (by rfl) (by rfl) ?_
          intro g7 w7 ST
          refine hKK.out _ _ ?_ (fun hHeld2 => ?_)
          · try dsimp only
            try trivial
          clear hKK KK hHeld
          rename _ => hHeld
          try simp only [Act.put, List.setIfInBounds_toArray, List.set_cons_zero, List.set_cons_succ]
          refine wpAnyH_ready (rs := [1, 3, 9]) (by kernel_rfl) (by simp) ?_
          refine AllReadyH.cons (at_list rfl) (fun KK hKK => ?_) (AllReadyH.cons (at_list rfl) (fun KK hKK => ?_) (AllReadyH.cons (at_list rfl) (fun KK hKK => ?_) AllReadyH.nil))
          · skip
            refine n1 _ ST hL (by rfl) (.tmp 46) (by rfl) (by rfl) ?_
            intro g1 w1 ST
            refine hKK.out _ _ ?_ (fun hHeld2 => ?_)
            · try dsimp only
              try trivial
            clear hKK KK hHeld
            rename _ => hHeld
            try simp only [Act.put, List.setIfInBounds_toArray, List.set_cons_zero, List.set_cons_succ]
            refine wpAnyH_ready (rs := [3, 9]) (by kernel_rfl) (by simp) ?_
            refine AllReadyH.cons (at_list rfl) (fun KK hKK => ?_) (AllReadyH.cons (at_list rfl) (fun KK hKK => ?_) AllReadyH.nil)
            · skip
              refine n3 _ ST hm (by rfl) (.tmp 48) (by rfl) (by rfl) ?_
              intro g3 w3 ST
              refine hKK.out _ _ ?_ (fun hHeld2 => ?_)
              · try dsimp only
                try trivial
              clear hKK KK hHeld
              rename _ => hHeld
              try simp only [Act.put, List.setIfInBounds_toArray, List.set_cons_zero, List.set_cons_succ]
              refine wpAnyH_ready (rs := [9]) (by kernel_rfl) (by simp) ?_
              refine AllReadyH.cons (at_list rfl) (fun KK hKK => ?_) AllReadyH.nil
              refine n9 _ ST HQ.out hn16 HLN.out HSRC.out HNIL.out (by rfl) (.tmp 53) (.tmp 54) (by rfl) (by rfl) (by rfl) ?_
              intro A9 c9 w9 ST
              refine hKK.out _ _ ?_ (fun hHeld2 => ?_)
              · try dsimp only
                try trivial
              clear hKK KK hHeld
              rename _ => hHeld
              try simp only [Act.put, List.setIfInBounds_toArray, List.set_cons_zero, List.set_cons_succ]
              refine wpAnyH_take (i := 10) (v := ?_) (at_list rfl) (by kernel_rfl) (by kernel_rfl) (by kernel_rfl) (fun _ _ _ h => h) (Or.inl ⟨by rfl, ?_⟩) (by assumption) ?_
              rotate_left
              · intro w hSw
                try dsimp only at hSw
                go_simp
                try with_reducible rfl
              simp only [Act.put, List.setIfInBounds_toArray, List.set_cons_zero, List.set_cons_succ]
              refine wpAnyH_ready (rs := [11]) (by kernel_rfl) (by simp) ?_
              refine AllReadyH.cons (at_list rfl) (fun KK hKK => ?_) AllReadyH.nil
              go_simp
              refine hKK.out _ _ ?_ (fun hHeld2 => ?_)
              · try dsimp only
                try trivial
              clear hKK KK hHeld
              rename _ => hHeld
              try simp only [Act.put, List.setIfInBounds_toArray, List.set_cons_zero, List.set_cons_succ]
              refine wpAnyH_take (i := 12) (v := ?_) (at_list rfl) (by kernel_rfl) (by kernel_rfl) (by kernel_rfl) (fun _ _ _ h => h) (Or.inl ⟨by rfl, ?_⟩) (by assumption) ?_
              rotate_left
              · intro w hSw
                try dsimp only at hSw
                go_simp
                try with_reducible rfl
              simp only [Act.put, List.setIfInBounds_toArray, List.set_cons_zero, List.set_cons_succ]
              refine wpAnyH_take (i := 13) (v := ?_) (at_list rfl) (by kernel_rfl) (by kernel_rfl) (by kernel_rfl) (fun _ _ _ h => h) (Or.inl ⟨by rfl, ?_⟩) (by assumption) ?_
              rotate_left
              · intro w hSw
                try dsimp only at hSw
                go_simp
                try with_reducible rfl
              simp only [Act.put, List.setIfInBounds_toArray, List.set_cons_zero, List.set_cons_succ]
              refine wpAnyH_done (by kernel_rfl) ?_ _
              refine NoPanic.normal ?_
              have HM := Lib.hid (ST.done HQ.out HLN.out HC0.out)
              go_wp2_with fail
              go_ret2
              exact .inl ⟨HC0.out, _, rfl, HM.out.1, HM.out.2⟩
            · skip
              refine n9 _ ST HQ.out hn16 HLN.out HSRC.out HNIL.out (by rfl) (.tmp 53) (.tmp 54) (by rfl) (by rfl) (by rfl) ?_
              intro A9 c9 w9 ST
              refine hKK.out _ _ ?_ (fun hHeld2 => ?_)
              · try dsimp only
                try trivial
              clear hKK KK hHeld
              rename _ => hHeld
              try simp only [Act.put, List.setIfInBounds_toArray, List.set_cons_zero, List.set_cons_succ]
              refine wpAnyH_ready (rs := [3]) (by kernel_rfl) (by simp) ?_
              refine AllReadyH.cons (at_list rfl) (fun KK hKK => ?_) AllReadyH.nil
              refine n3 _ ST hm (by rfl) (.tmp 48) (by rfl) (by rfl) ?_
              intro g3 w3 ST
              refine hKK.out _ _ ?_ (fun hHeld2 => ?_)
              · try dsimp only
                try trivial
              clear hKK KK hHeld
              rename _ => hHeld
              try simp only [Act.put, List.setIfInBounds_toArray, List.set_cons_zero, List.set_cons_succ]
              refine wpAnyH_take (i := 10) (v := ?_) (at_list rfl) (by kernel_rfl) (by kernel_rfl) (by kernel_rfl) (fun _ _ _ h => h) (Or.inl ⟨by rfl, ?_⟩) (by assumption) ?_
              rotate_left
              · intro w hSw
                try dsimp only at hSw
                go_simp
                try with_reducible rfl
              simp only [Act.put, List.setIfInBounds_toArray, List.set_cons_zero, List.set_cons_succ]
              refine wpAnyH_ready (rs := [11]) (by kernel_rfl) (by simp) ?_
              refine AllReadyH.cons (at_list rfl) (fun KK hKK => ?_) AllReadyH.nil
              go_simp
              refine hKK.out _ _ ?_ (fun hHeld2 => ?_)
              · try dsimp only
                try trivial
              clear hKK KK hHeld
              rename _ => hHeld
              try simp only [Act.put, List.setIfInBounds_toArray, List.set_cons_zero, List.set_cons_succ]
              refine wpAnyH_take (i := 12) (v := ?_) (at_list rfl) (by kernel_rfl) (by kernel_rfl) (by kernel_rfl) (fun _ _ _ h => h) (Or.inl ⟨by rfl, ?_⟩) (by assumption) ?_
              rotate_left
              · intro w hSw
                try dsimp only at hSw
                go_simp
                try with_reducible rfl
              simp only [Act.put, List.setIfInBounds_toArray, List.set_cons_zero, List.set_cons_succ]
              refine wpAnyH_take (i := 13) (v := ?_) (at_list rfl) (by kernel_rfl) (by kernel_rfl) (by kernel_rfl) (fun _ _ _ h => h) (Or.inl ⟨by rfl, ?_⟩) (by assumption) ?_
              rotate_left
              · intro w hSw
                try dsimp only at hSw
                go_simp
                try with_reducible rfl
              simp only [Act.put, List.setIfInBounds_toArray, List.set_cons_zero, List.set_cons_succ]
              refine wpAnyH_done (by kernel_rfl) ?_ _
              refine NoPanic.normal ?_
              have HM := Lib.hid (ST.done HQ.out HLN.out HC0.out)
              go_wp2_with fail
              go_ret2
              exact .inl ⟨HC0.out, _, rfl, HM.out.1, HM.out.2⟩
          · skip
            refine n3 _ ST hm (by rfl) (.tmp 48) (by rfl) (by rfl) ?_
            intro g3 w3 ST
            refine hKK.out _ _ ?_ (fun hHeld2 => ?_)
            · try dsimp only
              try trivial
            clear hKK KK hHeld
            rename _ => hHeld
            try simp only [Act.put, List.setIfInBounds_toArray, List.set_cons_zero, List.set_cons_succ]
            refine wpAnyH_ready (rs := [1, 9]) (by kernel_rfl) (by simp) ?_
            refine AllReadyH.cons (at_list rfl) (fun KK hKK => ?_) (AllReadyH.cons (at_list rfl) (fun KK hKK => ?_) AllReadyH.nil)
            · skip
              refine n1 _ ST hL (by rfl) (.tmp 46) (by rfl) (by rfl) ?_
              intro g1 w1 ST
              refine hKK.out _ _ ?_ (fun hHeld2 => ?_)
              · try dsimp only
                try trivial
              clear hKK KK hHeld
              rename _ => hHeld
              try simp only [Act.put, List.setIfInBounds_toArray, List.set_cons_zero, List.set_cons_succ]
              refine wpAnyH_ready (rs := [9]) (by kernel_rfl) (by simp) ?_
              refine AllReadyH.cons (at_list rfl) (fun KK hKK => ?_) AllReadyH.nil
              refine n9 _ ST HQ.out hn16 HLN.out HSRC.out HNIL.out (by rfl) (.tmp 53) (.tmp 54) (by rfl) (by rfl) (by rfl) ?_
              intro A9 c9 w9 ST
              refine hKK.out _ _ ?_ (fun hHeld2 => ?_)
              · try dsimp only
                try trivial
              clear hKK KK hHeld
              rename _ => hHeld
              try simp only [Act.put, List.setIfInBounds_toArray, List.set_cons_zero, List.set_cons_succ]
              refine wpAnyH_take (i := 10) (v := ?_) (at_list rfl) (by kernel_rfl) (by kernel_rfl) (by kernel_rfl) (fun _ _ _ h => h) (Or.inl ⟨by rfl, ?_⟩) (by assumption) ?_
              rotate_left
              · intro w hSw
                try dsimp only at hSw
                go_simp
                try with_reducible rfl
              simp only [Act.put, List.setIfInBounds_toArray, List.set_cons_zero, List.set_cons_succ]
              refine wpAnyH_ready (rs := [11]) (by kernel_rfl) (by simp) ?_
              refine AllReadyH.cons (at_list rfl) (fun KK hKK => ?_) AllReadyH.nil
              go_simp
              refine hKK.out _ _ ?_ (fun hHeld2 => ?_)
              · try dsimp only
                try trivial
              clear hKK KK hHeld
              rename _ => hHeld
              try simp only [Act.put, List.setIfInBounds_toArray, List.set_cons_zero, List.set_cons_succ]
              refine wpAnyH_take (i := 12) (v := ?_) (at_list rfl) (by kernel_rfl) (by kernel_rfl) (by kernel_rfl) (fun _ _ _ h => h) (Or.inl ⟨by rfl, ?_⟩) (by assumption) ?_
              rotate_left
              · intro w hSw
                try dsimp only at hSw
                go_simp
                try with_reducible rfl
              simp only [Act.put, List.setIfInBounds_toArray, List.set_cons_zero, List.set_cons_succ]
              refine wpAnyH_take (i := 13) (v := ?_) (at_list rfl) (by kernel_rfl) (by kernel_rfl) (by kernel_rfl) (fun _ _ _ h => h) (Or.inl ⟨by rfl, ?_⟩) (by assumption) ?_
              rotate_left
              · intro w hSw
                try dsimp only at hSw
                go_simp
                try with_reducible rfl
              simp only [Act.put, List.setIfInBounds_toArray, List.set_cons_zero, List.set_cons_succ]
              refine wpAnyH_done (by kernel_rfl) ?_ _
              refine NoPanic.normal ?_
              have HM := Lib.hid (ST.done HQ.out HLN.out HC0.out)
              go_wp2_with fail
              go_ret2
              exact .inl ⟨HC0.out, _, rfl, HM.out.1, HM.out.2⟩
            · skip
              refine n9 _ ST HQ.out hn16 HLN.out HSRC.out HNIL.out (by rfl) (.tmp 53) (.tmp 54) (by rfl) (by rfl) (by rfl) ?_
              intro A9 c9 w9 ST
              refine hKK.out _ _ ?_ (fun hHeld2 => ?_)
              · try dsimp only
                try trivial
              clear hKK KK hHeld
              rename _ => hHeld
              try simp only [Act.put, List.setIfInBounds_toArray, List.set_cons_zero, List.set_cons_succ]
              refine wpAnyH_ready (rs := [1]) (by kernel_rfl) (by simp) ?_
              refine AllReadyH.cons (at_list rfl) (fun KK hKK => ?_) AllReadyH.nil
              refine n1 _ ST hL (by rfl) (.tmp 46) (by rfl) (by rfl) ?_
              intro g1 w1 ST
              refine hKK.out _ _ ?_ (fun hHeld2 => ?_)
              · try dsimp only
                try trivial
              clear hKK KK hHeld
              rename _ => hHeld
              try simp only [Act.put, List.setIfInBounds_toArray, List.set_cons_zero, List.set_cons_succ]
              refine wpAnyH_take (i := 10) (v := ?_) (at_list rfl) (by kernel_rfl) (by kernel_rfl) (by kernel_rfl) (fun _ _ _ h => h) (Or.inl ⟨by rfl, ?_⟩) (by assumption) ?_
              rotate_left
              · intro w hSw
                try dsimp only at hSw
                go_simp
                try with_reducible rfl
              simp only [Act.put, List.setIfInBounds_toArray, List.set_cons_zero, List.set_cons_succ]
              refine wpAnyH_ready (rs := [11]) (by kernel_rfl) (by simp) ?_
              refine AllReadyH.cons (at_list rfl) (fun KK hKK => ?_) AllReadyH.nil
              go_simp
              refine hKK.out _ _ ?_ (fun hHeld2 => ?_)
              · try dsimp only
                try trivial
              clear hKK KK hHeld
              rename _ => hHeld
              try simp only [Act.put, List.setIfInBounds_toArray, List.set_cons_zero, List.set_cons_succ]
              refine wpAnyH_take (i := 12) (v := ?_) (at_list rfl) (by kernel_rfl) (by kernel_rfl) (by kernel_rfl) (fun _ _ _ h => h) (Or.inl ⟨by rfl, ?_⟩) (by assumption) ?_
              rotate_left
              · intro w hSw
                try dsimp only at hSw
                go_simp
                try with_reducible rfl
              simp only [Act.put, List.setIfInBounds_toArray, List.set_cons_zero, List.set_cons_succ]
              refine wpAnyH_take (i := 13) (v := ?_) (at_list rfl) (by kernel_rfl) (by kernel_rfl) (by kernel_rfl) (fun _ _ _ h => h) (Or.inl ⟨by rfl, ?_⟩) (by assumption) ?_
              rotate_left
              · intro w hSw
                try dsimp only at hSw
                go_simp
                try with_reducible rfl
              simp only [Act.put, List.setIfInBounds_toArray, List.set_cons_zero, List.set_cons_succ]
              refine wpAnyH_done (by kernel_rfl) ?_ _
              refine NoPanic.normal ?_
              have HM := Lib.hid (ST.done HQ.out HLN.out HC0.out)
              go_wp2_with fail
              go_ret2
              exact .inl ⟨HC0.out, _, rfl, HM.out.1, HM.out.2⟩
          · skip
            refine n9 _ ST HQ.out hn16 HLN.out HSRC.out HNIL.out (by rfl) (.tmp 53) (.tmp 54) (by rfl) (by rfl) (by rfl) ?_
            intro A9 c9 w9 ST
            refine hKK.out _ _ ?_ (fun hHeld2 => ?_)
            · try dsimp only
              try trivial
            clear hKK KK hHeld
            rename _ => hHeld
            try simp only [Act.put, List.setIfInBounds_toArray, List.set_cons_zero, List.set_cons_succ]
            refine wpAnyH_ready (rs := [1, 3]) (by kernel_rfl) (by simp) ?_
            refine AllReadyH.cons (at_list rfl) (fun KK hKK => ?_) (AllReadyH.cons (at_list rfl) (fun KK hKK => ?_) AllReadyH.nil)
            · skip
              refine n1 _ ST hL (by rfl) (.tmp 46) (by rfl) (by rfl) ?_
              intro g1 w1 ST
              refine hKK.out _ _ ?_ (fun hHeld2 => ?_)
              · try dsimp only
                try trivial
              clear hKK KK hHeld
              rename _ => hHeld
              try simp only [Act.put, List.setIfInBounds_toArray, List.set_cons_zero, List.set_cons_succ]
              refine wpAnyH_ready (rs := [3]) (by kernel_rfl) (by simp) ?_
              refine AllReadyH.cons (at_list rfl) (fun KK hKK => ?_) AllReadyH.nil
              refine n3 _ ST hm (by rfl) (.tmp 48) (by rfl) (by rfl) ?_
              intro g3 w3 ST
              refine hKK.out _ _ ?_ (fun hHeld2 => ?_)
              · try dsimp only
                try trivial
              clear hKK KK hHeld
              rename _ => hHeld
              try simp only [Act.put, List.setIfInBounds_toArray, List.set_cons_zero, List.set_cons_succ]
              refine wpAnyH_take (i := 10) (v := ?_) (at_list rfl) (by kernel_rfl) (by kernel_rfl) (by kernel_rfl) (fun _ _ _ h => h) (Or.inl ⟨by rfl, ?_⟩) (by assumption) ?_
              rotate_left
              · intro w hSw
                try dsimp only at hSw
                go_simp
                try with_reducible rfl
              simp only [Act.put, List.setIfInBounds_toArray, List.set_cons_zero, List.set_cons_succ]
              refine wpAnyH_ready (rs := [11]) (by kernel_rfl) (by simp) ?_
              refine AllReadyH.cons (at_list rfl) (fun KK hKK => ?_) AllReadyH.nil
              go_simp
              refine hKK.out _ _ ?_ (fun hHeld2 => ?_)
              · try dsimp only
                try trivial
              clear hKK KK hHeld
              rename _ => hHeld
              try simp only [Act.put, List.setIfInBounds_toArray, List.set_cons_zero, List.set_cons_succ]
              refine wpAnyH_take (i := 12) (v := ?_) (at_list rfl) (by kernel_rfl) (by kernel_rfl) (by kernel_rfl) (fun _ _ _ h => h) (Or.inl ⟨by rfl, ?_⟩) (by assumption) ?_
              rotate_left
              · intro w hSw
                try dsimp only at hSw
                go_simp
                try with_reducible rfl
              simp only [Act.put, List.setIfInBounds_toArray, List.set_cons_zero, List.set_cons_succ]
              refine wpAnyH_take (i := 13) (v := ?_) (at_list rfl) (by kernel_rfl) (by kernel_rfl) (by kernel_rfl) (fun _ _ _ h => h) (Or.inl ⟨by rfl, ?_⟩) (by assumption) ?_
              rotate_left
              · intro w hSw
                try dsimp only at hSw
                go_simp
                try with_reducible rfl
              simp only [Act.put, List.setIfInBounds_toArray, List.set_cons_zero, List.set_cons_succ]
              refine wpAnyH_done (by kernel_rfl) ?_ _
              refine NoPanic.normal ?_
              have HM := Lib.hid (ST.done HQ.out HLN.out HC0.out)
              go_wp2_with fail
              go_ret2
              exact .inl ⟨HC0.out, _, rfl, HM.out.1, HM.out.2⟩
            · skip
              refine n3 _ ST hm (by rfl) (.tmp 48) (by rfl) (by rfl) ?_
              intro g3 w3 ST
              refine hKK.out _ _ ?_ (fun hHeld2 => ?_)
              · try dsimp only
                try trivial
              clear hKK KK hHeld
              rename _ => hHeld
              try simp only [Act.put, List.setIfInBounds_toArray, List.set_cons_zero, List.set_cons_succ]
              refine wpAnyH_ready (rs := [1]) (by kernel_rfl) (by simp) ?_
              refine AllReadyH.cons (at_list rfl) (fun KK hKK => ?_) AllReadyH.nil
              refine n1 _ ST hL (by rfl) (.tmp 46) (by rfl) (by rfl) ?_
              intro g1 w1 ST
              refine hKK.out _ _ ?_ (fun hHeld2 => ?_)
              · try dsimp only
                try trivial
              clear hKK KK hHeld
              rename _ => hHeld
              try simp only [Act.put, List.setIfInBounds_toArray, List.set_cons_zero, List.set_cons_succ]
              refine wpAnyH_take (i := 10) (v := ?_) (at_list rfl) (by kernel_rfl) (by kernel_rfl) (by kernel_rfl) (fun _ _ _ h => h) (Or.inl ⟨by rfl, ?_⟩) (by assumption) ?_
              rotate_left
              · intro w hSw
                try dsimp only at hSw
                go_simp
                try with_reducible rfl
              simp only [Act.put, List.setIfInBounds_toArray, List.set_cons_zero, List.set_cons_succ]
              refine wpAnyH_ready (rs := [11]) (by kernel_rfl) (by simp) ?_
              refine AllReadyH.cons (at_list rfl) (fun KK hKK => ?_) AllReadyH.nil
              go_simp
              refine hKK.out _ _ ?_ (fun hHeld2 => ?_)
              · try dsimp only
                try trivial
              clear hKK KK hHeld
              rename _ => hHeld
              try simp only [Act.put, List.setIfInBounds_toArray, List.set_cons_zero, List.set_cons_succ]
              refine wpAnyH_take (i := 12) (v := ?_) (at_list rfl) (by kernel_rfl) (by kernel_rfl) (by kernel_rfl) (fun _ _ _ h => h) (Or.inl ⟨by rfl, ?_⟩) (by assumption) ?_
              rotate_left
              · intro w hSw
                try dsimp only at hSw
                go_simp
                try with_reducible rfl
              simp only [Act.put, List.setIfInBounds_toArray, List.set_cons_zero, List.set_cons_succ]
              refine wpAnyH_take (i := 13) (v := ?_) (at_list rfl) (by kernel_rfl) (by kernel_rfl) (by kernel_rfl) (fun _ _ _ h => h) (Or.inl ⟨by rfl, ?_⟩) (by assumption) ?_
              rotate_left
              · intro w hSw
                try dsimp only at hSw
                go_simp
                try with_reducible rfl
              simp only [Act.put, List.setIfInBounds_toArray, List.set_cons_zero, List.set_cons_succ]
              refine wpAnyH_done (by kernel_rfl) ?_ _
              refine NoPanic.normal ?_
              have HM := Lib.hid (ST.done HQ.out HLN.out HC0.out)
              go_wp2_with fail
              go_ret2
              exact .inl ⟨HC0.out, _, rfl, HM.out.1, HM.out.2⟩
      · skip
        refine n7 _ ST (by rfl) (by rfl) ?_
        intro g7 w7 ST
        refine hKK.out _ _ ?_ (fun hHeld2 => ?_)
        · try dsimp only
          try trivial
        clear hKK KK hHeld
        rename _ => hHeld
        try simp only [Act.put, List.setIfInBounds_toArray, List.set_cons_zero, List.set_cons_succ]
        refine wpAnyH_ready (rs := [1, 3, 6, 9]) (by kernel_rfl) (by simp) ?_
        refine AllReadyH.cons (at_list rfl) (fun KK hKK => ?_) (AllReadyH.cons (at_list rfl) (fun KK hKK => ?_) (AllReadyH.cons (at_list rfl) (fun KK hKK => ?_) (AllReadyH.cons (at_list rfl) (fun KK hKK => ?_) AllReadyH.nil)))
        · skip
          refine n1 _ ST hL (by rfl) (.tmp 46) (by rfl) (by rfl) ?_
          intro g1 w1 ST
          refine hKK.out _ _ ?_ (fun hHeld2 => ?_)
          · try dsimp only
            try trivial
          clear hKK KK hHeld
          rename _ => hHeld
          try simp only [Act.put, List.setIfInBounds_toArray, List.set_cons_zero, List.set_cons_succ]
          refine wpAnyH_ready (rs := [3, 6, 9]) (by kernel_rfl) (by simp) ?_
          refine AllReadyH.cons (at_list rfl) (fun KK hKK => ?_) (AllReadyH.cons (at_list rfl) (fun KK hKK => ?_) (AllReadyH.cons (at_list rfl) (fun KK hKK => ?_) AllReadyH.nil))
          · skip
            refine n3 _ ST hm (by rfl) (.tmp 48) (by rfl) (by rfl) ?_
            intro g3 w3 ST
            refine hKK.out _ _ ?_ (fun hHeld2 => ?_)
            · try dsimp only
              try trivial
            clear hKK KK hHeld
            rename _ => hHeld
            try simp only [Act.put, List.setIfInBounds_toArray, List.set_cons_zero, List.set_cons_succ]
            refine wpAnyH_ready (rs := [6, 9]) (by kernel_rfl) (by simp) ?_
            refine AllReadyH.cons (at_list rfl) (fun KK hKK => ?_) (AllReadyH.cons (at_list rfl) (fun KK hKK => ?_) AllReadyH.nil)
            · skip
              refine n6 _ ST hn64 (by rfl) (.tmp 51) (by rfl) (by rfl) ?_
              intro g6 w6 ST
              refine hKK.out _ _ ?_ (fun hHeld2 => ?_)
              · try dsimp only
                try trivial
              clear hKK KK hHeld
              rename _ => hHeld
              try simp only [Act.put, List.setIfInBounds_toArray, List.set_cons_zero, List.set_cons_succ]
              refine wpAnyH_ready (rs := [9]) (by kernel_rfl) (by simp) ?_
              refine AllReadyH.cons (at_list rfl) (fun KK hKK => ?_) AllReadyH.nil
              refine n9 _ ST HQ.out hn16 HLN.out HSRC.out HNIL.out (by rfl) (.tmp 53) (.tmp 54) (by rfl) (by rfl) (by rfl) ?_
              intro A9 c9 w9 ST
              refine hKK.out _ _ ?_ (fun hHeld2 => ?_)
              · try dsimp only
                try trivial
              clear hKK KK hHeld
              rename _ => hHeld
              try simp only [Act.put, List.setIfInBounds_toArray, List.set_cons_zero, List.set_cons_succ]
              refine wpAnyH_take (i := 10) (v := ?_) (at_list rfl) (by kernel_rfl) (by kernel_rfl) (by kernel_rfl) (fun _ _ _ h => h) (Or.inl ⟨by rfl, ?_⟩) (by assumption) ?_
              rotate_left
              · intro w hSw
                try dsimp only at hSw
                go_simp
                try with_reducible rfl
              simp only [Act.put, List.setIfInBounds_toArray, List.set_cons_zero, List.set_cons_succ]
              refine wpAnyH_ready (rs := [11]) (by kernel_rfl) (by simp) ?_
              refine AllReadyH.cons (at_list rfl) (fun KK hKK => ?_) AllReadyH.nil
              go_simp
              refine hKK.out _ _ ?_ (fun hHeld2 => ?_)
              · try dsimp only
                try trivial
              clear hKK KK hHeld
              rename _ => hHeld
              try simp only [Act.put, List.setIfInBounds_toArray, List.set_cons_zero, List.set_cons_succ]
              refine wpAnyH_take (i := 12) (v := ?_) (at_list rfl) (by kernel_rfl) (by kernel_rfl) (by kernel_rfl) (fun _ _ _ h => h) (Or.inl ⟨by rfl, ?_⟩) (by assumption) ?_
              rotate_left
              · intro w hSw
                try dsimp only at hSw
                go_simp
                try with_reducible rfl
              simp only [Act.put, List.setIfInBounds_toArray, List.set_cons_zero, List.set_cons_succ]
              refine wpAnyH_take (i := 13) (v := ?_) (at_list rfl) (by kernel_rfl) (by kernel_rfl) (by kernel_rfl) (fun _ _ _ h => h) (Or.inl ⟨by rfl, ?_⟩) (by assumption) ?_
              rotate_left
              · intro w hSw
                try dsimp only at hSw
                go_simp
                try with_reducible rfl
              simp only [Act.put, List.setIfInBounds_toArray, List.set_cons_zero, List.set_cons_succ]
              refine wpAnyH_done (by kernel_rfl) ?_ _
              refine NoPanic.normal ?_
              have HM := Lib.hid (ST.done HQ.out HLN.out HC0.out)
              go_wp2_with fail
              go_ret2
              exact .inl ⟨HC0.out, _, rfl, HM.out.1, HM.out.2⟩
            · skip
              refine n9 _ ST HQ.out hn16 HLN.out HSRC.out HNIL.out (by rfl) (.tmp 53) (.tmp 54) (by rfl) (by rfl) (by rfl) ?_
              intro A9 c9 w9 ST
              refine hKK.out _ _ ?_ (fun hHeld2 => ?_)
              · try dsimp only
                try trivial
              clear hKK KK hHeld
              rename _ => hHeld
              try simp only [Act.put, List.setIfInBounds_toArray, List.set_cons_zero, List.set_cons_succ]
              refine wpAnyH_ready (rs := [6]) (by kernel_rfl) (by simp) ?_
              refine AllReadyH.cons (at_list rfl) (fun KK hKK => ?_) AllReadyH.nil
              refine n6 _ ST hn64 (by rfl) (.tmp 51) (by rfl) (by rfl) ?_
              intro g6 w6 ST
              refine hKK.out _ _ ?_ (fun hHeld2 => ?_)
              · try dsimp only
                try trivial
              clear hKK KK hHeld
              rename _ => hHeld
              try simp only [Act.put, List.setIfInBounds_toArray, List.set_cons_zero, List.set_cons_succ]
              refine wpAnyH_take (i := 10) (v := ?_) (at_list rfl) (by kernel_rfl) (by kernel_rfl) (by kernel_rfl) (fun _ _ _ h => h) (Or.inl ⟨by rfl, ?_⟩) (by assumption) ?_
              rotate_left
              · intro w hSw
                try dsimp only at hSw
                go_simp
                try with_reducible rfl
              simp only [Act.put, List.setIfInBounds_toArray, List.set_cons_zero, List.set_cons_succ]
              refine wpAnyH_ready (rs := [11]) (by kernel_rfl) (by simp) ?_
              refine AllReadyH.cons (at_list rfl) (fun KK hKK => ?_) AllReadyH.nil
              go_simp
              refine hKK.out _ _ ?_ (fun hHeld2 => ?_)
              · try dsimp only
                try trivial
              clear hKK KK hHeld
              rename _ => hHeld
              try simp only [Act.put, List.setIfInBounds_toArray, List.set_cons_zero, List.set_cons_succ]
              refine wpAnyH_take (i := 12) (v := ?_) (at_list rfl) (by kernel_rfl) (by kernel_rfl) (by kernel_rfl) (fun _ _ _ h => h) (Or.inl ⟨by rfl, ?_⟩) (by assumption) ?_
              rotate_left
              · intro w hSw
                try dsimp only at hSw
                go_simp
                try with_reducible rfl
              simp only [Act.put, List.setIfInBounds_toArray, List.set_cons_zero, List.set_cons_succ]
              refine wpAnyH_take (i := 13) (v := ?_) (at_list rfl) (by kernel_rfl) (by kernel_rfl) (by kernel_rfl) (fun _ _ _ h => h) (Or.inl ⟨by rfl, ?_⟩) (by assumption) ?_
              rotate_left
              · intro w hSw
                try dsimp only at hSw
                go_simp
                try with_reducible rfl
              simp only [Act.put, List.setIfInBounds_toArray, List.set_cons_zero, List.set_cons_succ]
              refine wpAnyH_done (by kernel_rfl) ?_ _
              refine NoPanic.normal ?_
              have HM := Lib.hid (ST.done HQ.out HLN.out HC0.out)
              go_wp2_with fail
              go_ret2
              exact .inl ⟨HC0.out, _, rfl, HM.out.1, HM.out.2⟩
          · skip
            refine n6 _ ST hn64 (by rfl) (.tmp 51) (by rfl) (by rfl) ?_
            intro g6 w6 ST
            refine hKK.out _ _ ?_ (fun hHeld2 => ?_)
            · try dsimp only
              try trivial
            clear hKK KK hHeld
            rename _ => hHeld
            try simp only [Act.put, List.setIfInBounds_toArray, List.set_cons_zero, List.set_cons_succ]
            refine wpAnyH_ready (rs := [3, 9]) (by kernel_rfl) (by simp) ?_
            refine AllReadyH.cons (at_list rfl) (fun KK hKK => ?_) (AllReadyH.cons (at_list rfl) (fun KK hKK => ?_) AllReadyH.nil)
            · skip
              refine n3 _ ST hm (by rfl) (.tmp 48) (by rfl) (by rfl) ?_
              intro g3 w3 ST
              refine hKK.out _ _ ?_ (fun hHeld2 => ?_)
              · try dsimp only
                try trivial
              clear hKK KK hHeld
              rename _ => hHeld
              try simp only [Act.put, List.setIfInBounds_toArray, List.set_cons_zero, List.set_cons_succ]
              refine wpAnyH_ready (rs := [9]) (by kernel_rfl) (by simp) ?_
              refine AllReadyH.cons (at_list rfl) (fun KK hKK => ?_) AllReadyH.nil
              refine n9 _ ST HQ.out hn16 HLN.out HSRC.out HNIL.out (by rfl) (.tmp 53) (.tmp 54) (by rfl) (by rfl) (by rfl) ?_
              intro A9 c9 w9 ST
              refine hKK.out _ _ ?_ (fun hHeld2 => ?_)
              · try dsimp only
                try trivial
              clear hKK KK hHeld
              rename _ => hHeld
              try simp only [Act.put, List.setIfInBounds_toArray, List.set_cons_zero, List.set_cons_succ]
              refine wpAnyH_take (i := 10) (v := ?_) (at_list rfl) (by kernel_rfl) (by kernel_rfl) (by kernel_rfl) (fun _ _ _ h => h) (Or.inl ⟨by rfl, ?_⟩) (by assumption) ?_
              rotate_left
              · intro w hSw
                try dsimp only at hSw
                go_simp
                try with_reducible rfl
              simp only [Act.put, List.setIfInBounds_toArray, List.set_cons_zero, List.set_cons_succ]
              refine wpAnyH_ready (rs := [11]) (by kernel_rfl) (by simp) ?_
              refine AllReadyH.cons (at_list rfl) (fun KK hKK => ?_) AllReadyH.nil
              go_simp
              refine hKK.out _ _ ?_ (fun hHeld2 => ?_)
              · try dsimp only
                try trivial
              clear hKK KK hHeld
              rename _ => hHeld
              try simp only [Act.put, List.setIfInBounds_toArray, List.set_cons_zero, List.set_cons_succ]
              refine wpAnyH_take (i := 12) (v := ?_) (at_list rfl) (by kernel_rfl) (by kernel_rfl) (by kernel_rfl) (fun _ _ _ h => h) (Or.inl ⟨by rfl, ?_⟩) (by assumption) ?_
              rotate_left
              · intro w hSw
                try dsimp only at hSw
                go_simp
                try with_reducible rfl
              simp only [Act.put, List.setIfInBounds_toArray, List.set_cons_zero, List.set_cons_succ]
              refine wpAnyH_take (i := 13) (v := ?_) (at_list rfl) (by kernel_rfl) (by kernel_rfl) (by kernel_rfl) (fun _ _ _ h => h) (Or.inl ⟨by rfl, ?_⟩) (by assumption) ?_
              rotate_left
              · intro w hSw
                try dsimp only at hSw
                go_simp
                try with_reducible rfl
              simp only [Act.put, List.setIfInBounds_toArray, List.set_cons_zero, List.set_cons_succ]
              refine wpAnyH_done (by kernel_rfl) ?_ _
              refine NoPanic.normal ?_
              have HM := Lib.hid (ST.done HQ.out HLN.out HC0.out)
              go_wp2_with fail
              go_ret2
              exact .inl ⟨HC0.out, _, rfl, HM.out.1, HM.out.2⟩
            · skip
              refine n9 _ ST HQ.out hn16 HLN.out HSRC.out HNIL.out (by rfl) (.tmp 53) (.tmp 54) (by rfl) (by rfl) (by rfl) ?_
              intro A9 c9 w9 ST
              refine hKK.out _ _ ?_ (fun hHeld2 => ?_)
              · try dsimp only
                try trivial
              clear hKK KK hHeld
              rename _ => hHeld
              try simp only [Act.put, List.setIfInBounds_toArray, List.set_cons_zero, List.set_cons_succ]
              refine wpAnyH_ready (rs := [3]) (by kernel_rfl) (by simp) ?_
              refine AllReadyH.cons (at_list rfl) (fun KK hKK => ?_) AllReadyH.nil
              refine n3 _ ST hm (by rfl) (.tmp 48) (by rfl) (by rfl) ?_
              intro g3 w3 ST
              refine hKK.out _ _ ?_ (fun hHeld2 => ?_)
              · try dsimp only
                try trivial
              clear hKK KK hHeld
              rename _ => hHeld
              try simp only [Act.put, List.setIfInBounds_toArray, List.set_cons_zero, List.set_cons_succ]
              refine wpAnyH_take (i := 10) (v := ?_) (at_list rfl) (by kernel_rfl) (by kernel_rfl) (by kernel_rfl) (fun _ _ _ h => h) (Or.inl ⟨by rfl, ?_⟩) (by assumption) ?_
              rotate_left
              · intro w hSw
                try dsimp only at hSw
                go_simp
                try with_reducible rfl
              simp only [Act.put, List.setIfInBounds_toArray, List.set_cons_zero, List.set_cons_succ]
              refine wpAnyH_ready (rs := [11]) (by kernel_rfl) (by simp) ?_
              refine AllReadyH.cons (at_list rfl) (fun KK hKK => ?_) AllReadyH.nil
              go_simp
              refine hKK.out _ _ ?_ (fun hHeld2 => ?_)
              · try dsimp only
                try trivial
              clear hKK KK hHeld
              rename _ => hHeld
              try simp only [Act.put, List.setIfInBounds_toArray, List.set_cons_zero, List.set_cons_succ]
              refine wpAnyH_take (i := 12) (v := ?_) (at_list rfl) (by kernel_rfl) (by kernel_rfl) (by kernel_rfl) (fun _ _ _ h => h) (Or.inl ⟨by rfl, ?_⟩) (by assumption) ?_
              rotate_left
              · intro w hSw
                try dsimp only at hSw
                go_simp
                try with_reducible rfl
              simp only [Act.put, List.setIfInBounds_toArray, List.set_cons_zero, List.set_cons_succ]
              refine wpAnyH_take (i := 13) (v := ?_) (at_list rfl) (by kernel_rfl) (by kernel_rfl) (by kernel_rfl) (fun _ _ _ h => h) (Or.inl ⟨by rfl, ?_⟩) (by assumption) ?_
              rotate_left
              · intro w hSw
                try dsimp only at hSw
                go_simp
                try with_reducible rfl
              simp only [Act.put, List.setIfInBounds_toArray, List.set_cons_zero, List.set_cons_succ]
              refine wpAnyH_done (by kernel_rfl) ?_ _
              refine NoPanic.normal ?_
              have HM := Lib.hid (ST.done HQ.out HLN.out HC0.out)
              go_wp2_with fail
              go_ret2
              exact .inl ⟨HC0.out, _, rfl, HM.out.1, HM.out.2⟩
          · skip
            refine n9 _ ST HQ.out hn16 HLN.out HSRC.out HNIL.out (by rfl) (.tmp 53) (.tmp 54) (by rfl) (by rfl) (by rfl) ?_
            intro A9 c9 w9 ST
            refine hKK.out _ _ ?_ (fun hHeld2 => ?_)
            · try dsimp only
              try trivial
            clear hKK KK hHeld
            rename _ => hHeld
            try simp only [Act.put, List.setIfInBounds_toArray, List.set_cons_zero, List.set_cons_succ]
            refine wpAnyH_ready (rs := [3, 6]) (by kernel_rfl) (by simp) ?_
            refine AllReadyH.cons (at_list rfl) (fun KK hKK => ?_) (AllReadyH.cons (at_list rfl) (fun KK hKK => ?_) AllReadyH.nil)
            · skip
              refine n3 _ ST hm (by rfl) (.tmp 48) (by rfl) (by rfl) ?_
              intro g3 w3 ST
              refine hKK.out _ _ ?_ (fun hHeld2 => ?_)
              · try dsimp only
                try trivial
              clear hKK KK hHeld
              rename _ => hHeld
              try simp only [Act.put, List.setIfInBounds_toArray, List.set_cons_zero, List.set_cons_succ]
              refine wpAnyH_ready (rs := [6]) (by kernel_rfl) (by simp) ?_
              refine AllReadyH.cons (at_list rfl) (fun KK hKK => ?_) AllReadyH.nil
              refine n6 _ ST hn64 (by rfl) (.tmp 51) (by rfl) (by rfl) ?_
              intro g6 w6 ST
              refine hKK.out _ _ ?_ (fun hHeld2 => ?_)
              · try dsimp only
                try trivial
              clear hKK KK hHeld
              rename _ => hHeld
              try simp only [Act.put, List.setIfInBounds_toArray, List.set_cons_zero, List.set_cons_succ]
              refine wpAnyH_take (i := 10) (v := ?_) (at_list rfl) (by kernel_rfl) (by kernel_rfl) (by kernel_rfl) (fun _ _ _ h => h) (Or.inl ⟨by rfl, ?_⟩) (by assumption) ?_
              rotate_left
              · intro w hSw
                try dsimp only at hSw
                go_simp
                try with_reducible rfl
              simp only [Act.put, List.setIfInBounds_toArray, List.set_cons_zero, List.set_cons_succ]
              refine wpAnyH_ready (rs := [11]) (by kernel_rfl) (by simp) ?_
              refine AllReadyH.cons (at_list rfl) (fun KK hKK => ?_) AllReadyH.nil
              go_simp
              refine hKK.out _ _ ?_ (fun hHeld2 => ?_)
              · try dsimp only
                try trivial
              clear hKK KK hHeld
              rename _ => hHeld
              try simp only [Act.put, List.setIfInBounds_toArray, List.set_cons_zero, List.set_cons_succ]
              refine wpAnyH_take (i := 12) (v := ?_) (at_list rfl) (by kernel_rfl) (by kernel_rfl) (by kernel_rfl) (fun _ _ _ h => h) (Or.inl ⟨by rfl, ?_⟩) (by assumption) ?_
              rotate_left
              · intro w hSw
                try dsimp only at hSw
                go_simp
                try with_reducible rfl
              simp only [Act.put, List.setIfInBounds_toArray, List.set_cons_zero, List.set_cons_succ]
              refine wpAnyH_take (i := 13) (v := ?_) (at_list rfl) (by kernel_rfl) (by kernel_rfl) (by kernel_rfl) (fun _ _ _ h => h) (Or.inl ⟨by rfl, ?_⟩) (by assumption) ?_
              rotate_left
              · intro w hSw
                try dsimp only at hSw
                go_simp
                try with_reducible rfl
              simp only [Act.put, List.setIfInBounds_toArray, List.set_cons_zero, List.set_cons_succ]
              refine wpAnyH_done (by kernel_rfl) ?_ _
              refine NoPanic.normal ?_
              have HM := Lib.hid (ST.done HQ.out HLN.out HC0.out)
              go_wp2_with fail
              go_ret2
              exact .inl ⟨HC0.out, _, rfl, HM.out.1, HM.out.2⟩
            · skip
              refine n6 _ ST hn64 (by rfl) (.tmp 51) (by rfl) (by rfl) ?_
              intro g6 w6 ST
              refine hKK.out _ _ ?_ (fun hHeld2 => ?_)
              · try dsimp only
                try trivial
              clear hKK KK hHeld
              rename _ => hHeld
              try simp only [Act.put, List.setIfInBounds_toArray, List.set_cons_zero, List.set_cons_succ]
              refine wpAnyH_ready (rs := [3]) (by kernel_rfl) (by simp) ?_
              refine AllReadyH.cons (at_list rfl) (fun KK hKK => ?_) AllReadyH.nil
              refine n3 _ ST hm (by rfl) (.tmp 48) (by rfl) (by rfl) ?_
              intro g3 w3 ST
              refine hKK.out _ _ ?_ (fun hHeld2 => ?_)
              · try dsimp only
                try trivial
              clear hKK KK hHeld
              rename _ => hHeld
              try simp only [Act.put, List.setIfInBounds_toArray, List.set_cons_zero, List.set_cons_succ]
              refine wpAnyH_take (i := 10) (v := ?_) (at_list rfl) (by kernel_rfl) (by kernel_rfl) (by kernel_rfl) (fun _ _ _ h => h) (Or.inl ⟨by rfl, ?_⟩) (by assumption) ?_
              rotate_left
              · intro w hSw
                try dsimp only at hSw
                go_simp
                try with_reducible rfl
              simp only [Act.put, List.setIfInBounds_toArray, List.set_cons_zero, List.set_cons_succ]
              refine wpAnyH_ready (rs := [11]) (by kernel_rfl) (by simp) ?_
              refine AllReadyH.cons (at_list rfl) (fun KK hKK => ?_) AllReadyH.nil
              go_simp
              refine hKK.out _ _ ?_ (fun hHeld2 => ?_)
              · try dsimp only
                try trivial
              clear hKK KK hHeld
              rename _ => hHeld
              try simp only [Act.put, List.setIfInBounds_toArray, List.set_cons_zero, List.set_cons_succ]
              refine wpAnyH_take (i := 12) (v := ?_) (at_list rfl) (by kernel_rfl) (by kernel_rfl) (by kernel_rfl) (fun _ _ _ h => h) (Or.inl ⟨by rfl, ?_⟩) (by assumption) ?_
              rotate_left
              · intro w hSw
                try dsimp only at hSw
                go_simp
                try with_reducible rfl
              simp only [Act.put, List.setIfInBounds_toArray, List.set_cons_zero, List.set_cons_succ]
              refine wpAnyH_take (i := 13) (v := ?_) (at_list rfl) (by kernel_rfl) (by kernel_rfl) (by kernel_rfl) (fun _ _ _ h => h) (Or.inl ⟨by rfl, ?_⟩) (by assumption) ?_
              rotate_left
              · intro w hSw
                try dsimp only at hSw
                go_simp
                try with_reducible rfl
              simp only [Act.put, List.setIfInBounds_toArray, List.set_cons_zero, List.set_cons_succ]
              refine wpAnyH_done (by kernel_rfl) ?_ _
              refine NoPanic.normal ?_
              have HM := Lib.hid (ST.done HQ.out HLN.out HC0.out)
              go_wp2_with fail
              go_ret2
              exact .inl ⟨HC0.out, _, rfl, HM.out.1, HM.out.2⟩
        · skip
          refine n3 _ ST hm (by rfl) (.tmp 48) (by rfl) (by rfl) ?_
          intro g3 w3 ST
          refine hKK.out _ _ ?_ (fun hHeld2 => ?_)
          · try dsimp only
            try trivial
          clear hKK KK hHeld
          rename _ => hHeld
          try simp only [Act.put, List.setIfInBounds_toArray, List.set_cons_zero, List.set_cons_succ]
          refine wpAnyH_ready (rs := [1, 6, 9]) (by kernel_rfl) (by simp) ?_
          refine AllReadyH.cons (at_list rfl) (fun KK hKK => ?_) (AllReadyH.cons (at_list rfl) (fun KK hKK => ?_) (AllReadyH.cons (at_list rfl) (fun KK hKK => ?_) AllReadyH.nil))
          · skip
            refine n1 _ ST hL (by rfl) (.tmp 46) (by rfl) (by rfl) ?_
            intro g1 w1 ST
            refine hKK.out _ _ ?_ (fun hHeld2 => ?_)
            · try dsimp only
              try trivial
            clear hKK KK hHeld
            rename _ => hHeld
            try simp only [Act.put, List.setIfInBounds_toArray, List.set_cons_zero, List.set_cons_succ]
            refine wpAnyH_ready (rs := [6, 9]) (by kernel_rfl) (by simp) ?_
            refine AllReadyH.cons (at_list rfl) (fun KK hKK => ?_) (AllReadyH.cons (at_list rfl) (fun KK hKK => ?_) AllReadyH.nil)
            · skip
              refine n6 _ ST hn64 (by rfl) (.tmp 51) (by rfl) (by rfl) ?_
              intro g6 w6 ST
              refine hKK.out _ _ ?_ (fun hHeld2 => ?_)
              · try dsimp only
                try trivial
              clear hKK KK hHeld
              rename _ => hHeld
              try simp only [Act.put, List.setIfInBounds_toArray, List.set_cons_zero, List.set_cons_succ]
              refine wpAnyH_ready (rs := [9]) (by kernel_rfl) (by simp) ?_
              refine AllReadyH.cons (at_list rfl) (fun KK hKK => ?_) AllReadyH.nil
              refine n9 _ ST HQ.out hn16 HLN.out HSRC.out HNIL.out (by rfl) (.tmp 53) (.tmp 54) (by rfl) (by rfl) (by rfl) ?_
              intro A9 c9 w9 ST
              refine hKK.out _ _ ?_ (fun hHeld2 => ?_)
              · try dsimp only
                try trivial
              clear hKK KK hHeld
              rename _ => hHeld
              try simp only [Act.put, List.setIfInBounds_toArray, List.set_cons_zero, List.set_cons_succ]
              refine wpAnyH_take (i := 10) (v := ?_) (at_list rfl) (by kernel_rfl) (by kernel_rfl) (by kernel_rfl) (fun _ _ _ h => h) (Or.inl ⟨by rfl, ?_⟩) (by assumption) ?_
              rotate_left
              · intro w hSw
                try dsimp only at hSw
                go_simp
                try with_reducible rfl
              simp only [Act.put, List.setIfInBounds_toArray, List.set_cons_zero, List.set_cons_succ]
              refine wpAnyH_ready (rs := [11]) (by kernel_rfl) (by simp) ?_
              refine AllReadyH.cons (at_list rfl) (fun KK hKK => ?_) AllReadyH.nil
              go_simp
              refine hKK.out _ _ ?_ (fun hHeld2 => ?_)
              · try dsimp only
                try trivial
              clear hKK KK hHeld
              rename _ => hHeld
              try simp only [Act.put, List.setIfInBounds_toArray, List.set_cons_zero, List.set_cons_succ]
              refine wpAnyH_take (i := 12) (v := ?_) (at_list rfl) (by kernel_rfl) (by kernel_rfl) (by kernel_rfl) (fun _ _ _ h => h) (Or.inl ⟨by rfl, ?_⟩) (by assumption) ?_
              rotate_left
              · intro w hSw
                try dsimp only at hSw
                go_simp
                try with_reducible rfl
              simp only [Act.put, List.setIfInBounds_toArray, List.set_cons_zero, List.set_cons_succ]
              refine wpAnyH_take (i := 13) (v := ?_) (at_list rfl) (by kernel_rfl) (by kernel_rfl) (by kernel_rfl) (fun _ _ _ h => h) (Or.inl ⟨by rfl, ?_⟩) (by assumption) ?_
              rotate_left
              · intro w hSw
                try dsimp only at hSw
                go_simp
                try with_reducible rfl
              simp only [Act.put, List.setIfInBounds_toArray, List.set_cons_zero, List.set_cons_succ]
              refine wpAnyH_done (by kernel_rfl) ?_ _
              refine NoPanic.normal ?_
              have HM := Lib.hid (ST.done HQ.out HLN.out HC0.out)
              go_wp2_with fail
              go_ret2
              exact .inl ⟨HC0.out, _, rfl, HM.out.1, HM.out.2⟩
            · skip
              refine n9 _ ST HQ.out hn16 HLN.out HSRC.out HNIL.out (by rfl) (.tmp 53) (.tmp 54) (by rfl) (by rfl) (by rfl) ?_
              intro A9 c9 w9 ST
              refine hKK.out _ _ ?_ (fun hHeld2 => ?_)
              · try dsimp only
                try trivial
              clear hKK KK hHeld
              rename _ => hHeld
              try simp only [Act.put, List.setIfInBounds_toArray, List.set_cons_zero, List.set_cons_succ]
              refine wpAnyH_ready (rs := [6]) (by kernel_rfl) (by simp) ?_
              refine AllReadyH.cons (at_list rfl) (fun KK hKK => ?_) AllReadyH.nil
              refine n6 _ ST hn64 (by rfl) (.tmp 51) (by rfl) (by rfl) ?_
              intro g6 w6 ST
              refine hKK.out _ _ ?_ (fun hHeld2 => ?_)
              · try dsimp only
                try trivial
              clear hKK KK hHeld
              rename _ => hHeld
              try simp only [Act.put, List.setIfInBounds_toArray, List.set_cons_zero, List.set_cons_succ]
              refine wpAnyH_take (i := 10) (v := ?_) (at_list rfl) (by kernel_rfl) (by kernel_rfl) (by kernel_rfl) (fun _ _ _ h => h) (Or.inl ⟨by rfl, ?_⟩) (by assumption) ?_
              rotate_left
              · intro w hSw
                try dsimp only at hSw
                go_simp
                try with_reducible rfl
              simp only [Act.put, List.setIfInBounds_toArray, List.set_cons_zero, List.set_cons_succ]
              refine wpAnyH_ready (rs := [11]) (by kernel_rfl) (by simp) ?_
              refine AllReadyH.cons (at_list rfl) (fun KK hKK => ?_) AllReadyH.nil
              go_simp
              refine hKK.out _ _ ?_ (fun hHeld2 => ?_)
              · try dsimp only
                try trivial
              clear hKK KK hHeld
              rename _ => hHeld
              try simp only [Act.put, List.setIfInBounds_toArray, List.set_cons_zero, List.set_cons_succ]
              refine wpAnyH_take (i := 12) (v := ?_) (at_list rfl) (by kernel_rfl) (by kernel_rfl) (by kernel_rfl) (fun _ _ _ h => h) (Or.inl ⟨by rfl, ?_⟩) (by assumption) ?_
              rotate_left
              · intro w hSw
                try dsimp only at hSw
                go_simp
                try with_reducible rfl
              simp only [Act.put, List.setIfInBounds_toArray, List.set_cons_zero, List.set_cons_succ]
              refine wpAnyH_take (i := 13) (v := ?_) (at_list rfl) (by kernel_rfl) (by kernel_rfl) (by kernel_rfl) (fun _ _ _ h => h) (Or.inl ⟨by rfl, ?_⟩) (by assumption) ?_
              rotate_left
              · intro w hSw
                try dsimp only at hSw
                go_simp
                try with_reducible rfl
              simp only [Act.put, List.setIfInBounds_toArray, List.set_cons_zero, List.set_cons_succ]
              refine wpAnyH_done (by kernel_rfl) ?_ _
              refine NoPanic.normal ?_
              have HM := Lib.hid (ST.done HQ.out HLN.out HC0.out)
              go_wp2_with fail
              go_ret2
              exact .inl ⟨HC0.out, _, rfl, HM.out.1, HM.out.2⟩
          · skip
            refine n6 _ ST hn64 (by rfl) (.tmp 51) (by rfl) (by rfl) ?_
            intro g6 w6 ST
            refine hKK.out _ _ ?_ (fun hHeld2 => ?_)
            · try dsimp only
              try trivial
            clear hKK KK hHeld
            rename _ => hHeld
            try simp only [Act.put, List.setIfInBounds_toArray, List.set_cons_zero, List.set_cons_succ]
            refine wpAnyH_ready (rs := [1, 9]) (by kernel_rfl) (by simp) ?_
            refine AllReadyH.cons (at_list rfl) (fun KK hKK => ?_) (AllReadyH.cons (at_list rfl) (fun KK hKK => ?_) AllReadyH.nil)
            · skip
              refine n1 _ ST hL (by rfl) (.tmp 46) (by rfl) (by rfl) ?_
              intro g1 w1 ST
              refine hKK.out _ _ ?_ (fun hHeld2 => ?_)
              · try dsimp only
                try trivial
              clear hKK KK hHeld
              rename _ => hHeld
              try simp only [Act.put, List.setIfInBounds_toArray, List.set_cons_zero, List.set_cons_succ]
              refine wpAnyH_ready (rs := [9]) (by kernel_rfl) (by simp) ?_
              refine AllReadyH.cons (at_list rfl) (fun KK hKK => ?_) AllReadyH.nil
              refine n9 _ ST HQ.out hn16 HLN.out HSRC.out HNIL.out (by rfl) (.tmp 53) (.tmp 54) (by rfl) (by rfl) (by rfl) ?_
              intro A9 c9 w9 ST
              refine hKK.out _ _ ?_ (fun hHeld2 => ?_)
              · try dsimp only
                try trivial
              clear hKK KK hHeld
              rename _ => hHeld
              try simp only [Act.put, List.setIfInBounds_toArray, List.set_cons_zero, List.set_cons_succ]
              refine wpAnyH_take (i := 10) (v := ?_) (at_list rfl) (by kernel_rfl) (by kernel_rfl) (by kernel_rfl) (fun _ _ _ h => h) (Or.inl ⟨by rfl, ?_⟩) (by assumption) ?_
              rotate_left
              · intro w hSw
                try dsimp only at hSw
                go_simp
                try with_reducible rfl
              simp only [Act.put, List.setIfInBounds_toArray, List.set_cons_zero, List.set_cons_succ]
              refine wpAnyH_ready (rs := [11]) (by kernel_rfl) (by simp) ?_
              refine AllReadyH.cons (at_list rfl) (fun KK hKK => ?_) AllReadyH.nil
              go_simp
              refine hKK.out _ _ ?_ (fun hHeld2 => ?_)
              · try dsimp only
                try trivial
              clear hKK KK hHeld
              rename _ => hHeld
              try simp only [Act.put, List.setIfInBounds_toArray, List.set_cons_zero, List.set_cons_succ]
              refine wpAnyH_take (i := 12) (v := ?_) (at_list rfl) (by kernel_rfl) (by kernel_rfl) (by kernel_rfl) (fun _ _ _ h => h) (Or.inl ⟨by rfl, ?_⟩) (by assumption) ?_
              rotate_left
              · intro w hSw
                try dsimp only at hSw
                go_simp
                try with_reducible rfl
              simp only [Act.put, List.setIfInBounds_toArray, List.set_cons_zero, List.set_cons_succ]
              refine wpAnyH_take (i := 13) (v := ?_) (at_list rfl) (by kernel_rfl) (by kernel_rfl) (by kernel_rfl) (fun _ _ _ h => h) (Or.inl ⟨by rfl, ?_⟩) (by assumption) ?_
              rotate_left
              · intro w hSw
                try dsimp only at hSw
                go_simp
                try with_reducible rfl
              simp only [Act.put, List.setIfInBounds_toArray, List.set_cons_zero, List.set_cons_succ]
              refine wpAnyH_done (by kernel_rfl) ?_ _
              refine NoPanic.normal ?_
              have HM := Lib.hid (ST.done HQ.out HLN.out HC0.out)
              go_wp2_with fail
              go_ret2
              exact .inl ⟨HC0.out, _, rfl, HM.out.1, HM.out.2⟩
            · skip
              refine n9 _ ST HQ.out hn16 HLN.out HSRC.out HNIL.out (by rfl) (.tmp 53) (.tmp 54) (by rfl) (by rfl) (by rfl) ?_
              intro A9 c9 w9 ST
              refine hKK.out _ _ ?_ (fun hHeld2 => ?_)
              · try dsimp only
                try trivial
              clear hKK KK hHeld
              rename _ => hHeld
              try simp only [Act.put, List.setIfInBounds_toArray, List.set_cons_zero, List.set_cons_succ]
              refine wpAnyH_ready (rs := [1]) (by kernel_rfl) (by simp) ?_
              refine AllReadyH.cons (at_list rfl) (fun KK hKK => ?_) AllReadyH.nil
              refine n1 _ ST hL (by rfl) (.tmp 46) (by rfl) (by rfl) ?_
              intro g1 w1 ST
              refine hKK.out _ _ ?_ (fun hHeld2 => ?_)
              · try dsimp only
                try trivial
              clear hKK KK hHeld
              rename _ => hHeld
              try simp only [Act.put, List.setIfInBounds_toArray, List.set_cons_zero, List.set_cons_succ]
              refine wpAnyH_take (i := 10) (v := ?_) (at_list rfl) (by kernel_rfl) (by kernel_rfl) (by kernel_rfl) (fun _ _ _ h => h) (Or.inl ⟨by rfl, ?_⟩) (by assumption) ?_
              rotate_left
              · intro w hSw
                try dsimp only at hSw
                go_simp
                try with_reducible rfl
              simp only [Act.put, List.setIfInBounds_toArray, List.set_cons_zero, List.set_cons_succ]
              refine wpAnyH_ready (rs := [11]) (by kernel_rfl) (by simp) ?_
              refine AllReadyH.cons (at_list rfl) (fun KK hKK => ?_) AllReadyH.nil
              go_simp
              refine hKK.out _ _ ?_ (fun hHeld2 => ?_)
              · try dsimp only
                try trivial
              clear hKK KK hHeld
              rename _ => hHeld
              try simp only [Act.put, List.setIfInBounds_toArray, List.set_cons_zero, List.set_cons_succ]
              refine wpAnyH_take (i := 12) (v := ?_) (at_list rfl) (by kernel_rfl) (by kernel_rfl) (by kernel_rfl) (fun _ _ _ h => h) (Or.inl ⟨by rfl, ?_⟩) (by assumption) ?_
              rotate_left
              · intro w hSw
                try dsimp only at hSw
                go_simp
                try with_reducible rfl
              simp only [Act.put, List.setIfInBounds_toArray, List.set_cons_zero, List.set_cons_succ]
              refine wpAnyH_take (i := 13) (v := ?_) (at_list rfl) (by kernel_rfl) (by kernel_rfl) (by kernel_rfl) (fun _ _ _ h => h) (Or.inl ⟨by rfl, ?_⟩) (by assumption) ?_
              rotate_left
              · intro w hSw
                try dsimp only at hSw
                go_simp
                try with_reducible rfl
              simp only [Act.put, List.setIfInBounds_toArray, List.set_cons_zero, List.set_cons_succ]
              refine wpAnyH_done (by kernel_rfl) ?_ _
              refine NoPanic.normal ?_
              have HM := Lib.hid (ST.done HQ.out HLN.out HC0.out)
              go_wp2_with fail
              go_ret2
              exact .inl ⟨HC0.out, _, rfl, HM.out.1, HM.out.2⟩
          · skip
            refine n9 _ ST HQ.out hn16 HLN.out HSRC.out HNIL.out (by rfl) (.tmp 53) (.tmp 54) (by rfl) (by rfl) (by rfl) ?_
            intro A9 c9 w9 ST
            refine hKK.out _ _ ?_ (fun hHeld2 => ?_)
            · try dsimp only
              try trivial
            clear hKK KK hHeld
            rename _ => hHeld
            try simp only [Act.put, List.setIfInBounds_toArray, List.set_cons_zero, List.set_cons_succ]
            refine wpAnyH_ready (rs := [1, 6]) (by kernel_rfl) (by simp) ?_
            refine AllReadyH.cons (at_list rfl) (fun KK hKK => ?_) (AllReadyH.cons (at_list rfl) (fun KK hKK => ?_) AllReadyH.nil)
            · skip
              refine n1 _ ST hL (by rfl) (.tmp 46) (by rfl) (by rfl) ?_
              intro g1 w1 ST
              refine hKK.out _ _ ?_ (fun hHeld2 => ?_)
              · try dsimp only
                try trivial
              clear hKK KK hHeld
              rename _ => hHeld
              try simp only [Act.put, List.setIfInBounds_toArray, List.set_cons_zero, List.set_cons_succ]
              refine wpAnyH_ready (rs := [6]) (by kernel_rfl) (by simp) ?_
              refine AllReadyH.cons (at_list rfl) (fun KK hKK => ?_) AllReadyH.nil
              refine n6 _ ST hn64 (by rfl) (.tmp 51) (by rfl) (by rfl) ?_
              intro g6 w6 ST
              refine hKK.out _ _ ?_ (fun hHeld2 => ?_)
              · try dsimp only
                try trivial
              clear hKK KK hHeld
              rename _ => hHeld
              try simp only [Act.put, List.setIfInBounds_toArray, List.set_cons_zero, List.set_cons_succ]
              refine wpAnyH_take (i := 10) (v := ?_) (at_list rfl) (by kernel_rfl) (by kernel_rfl) (by kernel_rfl) (fun _ _ _ h => h) (Or.inl ⟨by rfl, ?_⟩) (by assumption) ?_
              rotate_left
              · intro w hSw
                try dsimp only at hSw
                go_simp
                try with_reducible rfl
              simp only [Act.put, List.setIfInBounds_toArray, List.set_cons_zero, List.set_cons_succ]
              refine wpAnyH_ready (rs := [11]) (by kernel_rfl) (by simp) ?_
              refine AllReadyH.cons (at_list rfl) (fun KK hKK => ?_) AllReadyH.nil
              go_simp
              refine hKK.out _ _ ?_ (fun hHeld2 => ?_)
              · try dsimp only
                try trivial
              clear hKK KK hHeld
              rename _ => hHeld
              try simp only [Act.put, List.setIfInBounds_toArray, List.set_cons_zero, List.set_cons_succ]
              refine wpAnyH_take (i := 12) (v := ?_) (at_list rfl) (by kernel_rfl) (by kernel_rfl) (by kernel_rfl) (fun _ _ _ h => h) (Or.inl ⟨by rfl, ?_⟩) (by assumption) ?_
              rotate_left
              · intro w hSw
                try dsimp only at hSw
                go_simp
                try with_reducible rfl
              simp only [Act.put, List.setIfInBounds_toArray, List.set_cons_zero, List.set_cons_succ]
              refine wpAnyH_take (i := 13) (v := ?_) (at_list rfl) (by kernel_rfl) (by kernel_rfl) (by kernel_rfl) (fun _ _ _ h => h) (Or.inl ⟨by rfl, ?_⟩) (by assumption) ?_
              rotate_left
              · intro w hSw
                try dsimp only at hSw
                go_simp
                try with_reducible rfl
              simp only [Act.put, List.setIfInBounds_toArray, List.set_cons_zero, List.set_cons_succ]
              refine wpAnyH_done (by kernel_rfl) ?_ _
              refine NoPanic.normal ?_
              have HM := Lib.hid (ST.done HQ.out HLN.out HC0.out)
              go_wp2_with fail
              go_ret2
              exact .inl ⟨HC0.out, _, rfl, HM.out.1, HM.out.2⟩
            · skip
              refine n6 _ ST hn64 (by rfl) (.tmp 51) (by rfl) (by rfl) ?_
              intro g6 w6 ST
              refine hKK.out _ _ ?_ (fun hHeld2 => ?_)
              · try dsimp only
                try trivial
              clear hKK KK hHeld
              rename _ => hHeld
              try simp only [Act.put, List.setIfInBounds_toArray, List.set_cons_zero, List.set_cons_succ]
              refine wpAnyH_ready (rs := [1]) (by kernel_rfl) (by simp) ?_
              refine AllReadyH.cons (at_list rfl) (fun KK hKK => ?_) AllReadyH.nil
              refine n1 _ ST hL (by rfl) (.tmp 46) (by rfl) (by rfl) ?_
              intro g1 w1 ST
              refine hKK.out _ _ ?_ (fun hHeld2 => ?_)
              · try dsimp only
                try trivial
              clear hKK KK hHeld
              rename _ => hHeld
              try simp only [Act.put, List.setIfInBounds_toArray, List.set_cons_zero, List.set_cons_succ]
              refine wpAnyH_take (i := 10) (v := ?_) (at_list rfl) (by kernel_rfl) (by kernel_rfl) (by kernel_rfl) (fun _ _ _ h => h) (Or.inl ⟨by rfl, ?_⟩) (by assumption) ?_
              rotate_left
              · intro w hSw
                try dsimp only at hSw
                go_simp
                try with_reducible rfl
              simp only [Act.put, List.setIfInBounds_toArray, List.set_cons_zero, List.set_cons_succ]
              refine wpAnyH_ready (rs := [11]) (by kernel_rfl) (by simp) ?_
              refine AllReadyH.cons (at_list rfl) (fun KK hKK => ?_) AllReadyH.nil
              go_simp
              refine hKK.out _ _ ?_ (fun hHeld2 => ?_)
              · try dsimp only
                try trivial
              clear hKK KK hHeld
              rename _ => hHeld
              try simp only [Act.put, List.setIfInBounds_toArray, List.set_cons_zero, List.set_cons_succ]
              refine wpAnyH_take (i := 12) (v := ?_) (at_list rfl) (by kernel_rfl) (by kernel_rfl) (by kernel_rfl) (fun _ _ _ h => h) (Or.inl ⟨by rfl, ?_⟩) (by assumption) ?_
              rotate_left
              · intro w hSw
                try dsimp only at hSw
                go_simp
                try with_reducible rfl
              simp only [Act.put, List.setIfInBounds_toArray, List.set_cons_zero, List.set_cons_succ]
              refine wpAnyH_take (i := 13) (v := ?_) (at_list rfl) (by kernel_rfl) (by kernel_rfl) (by kernel_rfl) (fun _ _ _ h => h) (Or.inl ⟨by rfl, ?_⟩) (by assumption) ?_
              rotate_left
              · intro w hSw
                try dsimp only at hSw
                go_simp
                try with_reducible rfl
              simp only [Act.put, List.setIfInBounds_toArray, List.set_cons_zero, List.set_cons_succ]
              refine wpAnyH_done (by kernel_rfl) ?_ _
              refine NoPanic.normal ?_
              have HM := Lib.hid (ST.done HQ.out HLN.out HC0.out)
              go_wp2_with fail
              go_ret2
              exact .inl ⟨HC0.out, _, rfl, HM.out.1, HM.out.2⟩
        · skip
          refine n6 _ ST hn64 (by rfl) (.tmp 51) (by rfl) (by rfl) ?_
          intro g6 w6 ST
          refine hKK.out _ _ ?_ (fun hHeld2 => ?_)
          · try dsimp only
            try trivial
          clear hKK KK hHeld
          rename _ => hHeld
          try simp only [Act.put, List.setIfInBounds_toArray, List.set_cons_zero, List.set_cons_succ]
          refine wpAnyH_ready (rs := [1, 3, 9]) (by kernel_rfl) (by simp) ?_
          refine AllReadyH.cons (at_list rfl) (fun KK hKK => ?_) (AllReadyH.cons (at_list rfl) (fun KK hKK => ?_) (AllReadyH.cons (at_list rfl) (fun KK hKK => ?_) AllReadyH.nil))
          · skip
            refine n1 _ ST hL (by rfl) (.tmp 46) (by rfl) (by rfl) ?_
            intro g1 w1 ST
            refine hKK.out _ _ ?_ (fun hHeld2 => ?_)
            · try dsimp only
              try trivial
            clear hKK KK hHeld
            rename _ => hHeld
            try simp only [Act.put, List.setIfInBounds_toArray, List.set_cons_zero, List.set_cons_succ]
            refine wpAnyH_ready (rs := [3, 9]) (by kernel_rfl) (by simp) ?_
            refine AllReadyH.cons (at_list rfl) (fun KK hKK => ?_) (AllReadyH.cons (at_list rfl) (fun KK hKK => ?_) AllReadyH.nil)
            · skip
              refine n3 _ ST hm (by rfl) (.tmp 48) (by rfl) (by rfl) ?_
              intro g3 w3 ST
              refine hKK.out _ _ ?_ (fun hHeld2 => ?_)
              · try dsimp only
                try trivial
              clear hKK KK hHeld
              rename _ => hHeld
              try simp only [Act.put, List.setIfInBounds_toArray, List.set_cons_zero, List.set_cons_succ]
              refine wpAnyH_ready (rs := [9]) (by kernel_rfl) (by simp) ?_
              refine AllReadyH.cons (at_list rfl) (fun KK hKK => ?_) AllReadyH.nil
              refine n9 _ ST HQ.out hn16 HLN.out HSRC.out HNIL.out (by rfl) (.tmp 53) (.tmp 54) (by rfl) (by rfl) (by rfl) ?_
              intro A9 c9 w9 ST
              refine hKK.out _ _ ?_ (fun hHeld2 => ?_)
              · try dsimp only
                try trivial
              clear hKK KK hHeld
              rename _ => hHeld
              try simp only [Act.put, List.setIfInBounds_toArray, List.set_cons_zero, List.set_cons_succ]
              refine wpAnyH_take (i := 10) (v := ?_) (at_list rfl) (by kernel_rfl) (by kernel_rfl) (by kernel_rfl) (fun _ _ _ h => h) (Or.inl ⟨by rfl, ?_⟩) (by assumption) ?_
              rotate_left
              · intro w hSw
                try dsimp only at hSw
                go_simp
                try with_reducible rfl
              simp only [Act.put, List.setIfInBounds_toArray, List.set_cons_zero, List.set_cons_succ]
              refine wpAnyH_ready (rs := [11]) (by kernel_rfl) (by simp) ?_
              refine AllReadyH.cons (at_list rfl) (fun KK hKK => ?_) AllReadyH.nil
              go_simp
              refine hKK.out _ _ ?_ (fun hHeld2 => ?_)
              · try dsimp only
                try trivial
              clear hKK KK hHeld
              rename _ => hHeld
              try simp only [Act.put, List.setIfInBounds_toArray, List.set_cons_zero, List.set_cons_succ]
              refine wpAnyH_take (i := 12) (v := ?_) (at_list rfl) (by kernel_rfl) (by kernel_rfl) (by kernel_rfl) (fun _ _ _ h => h) (Or.inl ⟨by rfl, ?_⟩) (by assumption) ?_
              rotate_left
              · intro w hSw
                try dsimp only at hSw
                go_simp
                try with_reducible rfl
              simp only [Act.put, List.setIfInBounds_toArray, List.set_cons_zero, List.set_cons_succ]
              refine wpAnyH_take (i := 13) (v := ?_) (at_list rfl) (by kernel_rfl) (by kernel_rfl) (by kernel_rfl) (fun _ _ _ h => h) (Or.inl ⟨by rfl, ?_⟩) (by assumption) ?_
              rotate_left
              · intro w hSw
                try dsimp only at hSw
                go_simp
                try with_reducible rfl
              simp only [Act.put, List.setIfInBounds_toArray, List.set_cons_zero, List.set_cons_succ]
              refine wpAnyH_done (by kernel_rfl) ?_ _
              refine NoPanic.normal ?_
              have HM := Lib.hid (ST.done HQ.out HLN.out HC0.out)
              go_wp2_with fail
              go_ret2
              exact .inl ⟨HC0.out, _, rfl, HM.out.1, HM.out.2⟩
            · skip
              refine n9 _ ST HQ.out hn16 HLN.out HSRC.out HNIL.out (by rfl) (.tmp 53) (.tmp 54) (by rfl) (by rfl) (by rfl) ?_
              intro A9 c9 w9 ST
              refine hKK.out _ _ ?_ (fun hHeld2 => ?_)
              · try dsimp only
                try trivial
              clear hKK KK hHeld
              rename _ => hHeld
              try simp only [Act.put, List.setIfInBounds_toArray, List.set_cons_zero, List.set_cons_succ]
              refine wpAnyH_ready (rs := [3]) (by kernel_rfl) (by simp) ?_
              refine AllReadyH.cons (at_list rfl) (fun KK hKK => ?_) AllReadyH.nil
              refine n3 _ ST hm (by rfl) (.tmp 48) (by rfl) (by rfl) ?_
              intro g3 w3 ST
              refine hKK.out _ _ ?_ (fun hHeld2 => ?_)
              · try dsimp only
                try trivial
              clear hKK KK hHeld
              rename _ => hHeld
              try simp only [Act.put, List.setIfInBounds_toArray, List.set_cons_zero, List.set_cons_succ]
              refine wpAnyH_take (i := 10) (v := ?_) (at_list rfl) (by kernel_rfl) (by kernel_rfl) (by kernel_rfl) (fun _ _ _ h => h) (Or.inl ⟨by rfl, ?_⟩) (by assumption) ?_
              rotate_left
              · intro w hSw
                try dsimp only at hSw
                go_simp
                try with_reducible rfl
              simp only [Act.put, List.setIfInBounds_toArray, List.set_cons_zero, List.set_cons_succ]
              refine wpAnyH_ready (rs := [11]) (by kernel_rfl) (by simp) ?_
              refine AllReadyH.cons (at_list rfl) (fun KK hKK => ?_) AllReadyH.nil
              go_simp
              refine hKK.out _ _ ?_ (fun hHeld2 => ?_)
              · try dsimp only
                try trivial
              clear hKK KK hHeld
              rename _ => hHeld
              try simp only [Act.put, List.setIfInBounds_toArray, List.set_cons_zero, List.set_cons_succ]
              refine wpAnyH_take (i := 12) (v := ?_) (at_list rfl) (by kernel_rfl) (by kernel_rfl) (by kernel_rfl) (fun _ _ _ h => h) (Or.inl ⟨by rfl, ?_⟩) (by assumption) ?_
              rotate_left
              · intro w hSw
                try dsimp only at hSw
                go_simp
                try with_reducible rfl
              simp only [Act.put, List.setIfInBounds_toArray, List.set_cons_zero, List.set_cons_succ]
              refine wpAnyH_take (i := 13) (v := ?_) (at_list rfl) (by kernel_rfl) (by kernel_rfl) (by kernel_rfl) (fun _ _ _ h => h) (Or.inl ⟨by rfl, ?_⟩) (by assumption) ?_
              rotate_left
              · intro w hSw
                try dsimp only at hSw
                go_simp
                try with_reducible rfl
              simp only [Act.put, List.setIfInBounds_toArray, List.set_cons_zero, List.set_cons_succ]
              refine wpAnyH_done (by kernel_rfl) ?_ _
              refine NoPanic.normal ?_
              have HM := Lib.hid (ST.done HQ.out HLN.out HC0.out)
              go_wp2_with fail
              go_ret2
              exact .inl ⟨HC0.out, _, rfl, HM.out.1, HM.out.2⟩
          · skip
            refine n3 _ ST hm (by rfl) (.tmp 48) (by rfl) (by rfl) ?_
            intro g3 w3 ST
            refine hKK.out _ _ ?_ (fun hHeld2 => ?_)
            · try dsimp only
              try trivial
            clear hKK KK hHeld
            rename _ => hHeld
            try simp only [Act.put, List.setIfInBounds_toArray, List.set_cons_zero, List.set_cons_succ]
            refine wpAnyH_ready (rs := [1, 9]) (by kernel_rfl) (by simp) ?_
            refine AllReadyH.cons (at_list rfl) (fun KK hKK => ?_) (AllReadyH.cons (at_list rfl) (fun KK hKK => ?_) AllReadyH.nil)
            · skip
              refine n1 _ ST hL (by rfl) (.tmp 46) (by rfl) (by rfl) ?_
              intro g1 w1 ST
              refine hKK.out _ _ ?_ (fun hHeld2 => ?_)
              · try dsimp only
                try trivial
              clear hKK KK hHeld
              rename _ => hHeld
              try simp only [Act.put, List.setIfInBounds_toArray, List.set_cons_zero, List.set_cons_succ]
              refine wpAnyH_ready (rs := [9]) (by kernel_rfl) (by simp) ?_
              refine AllReadyH.cons (at_list rfl) (fun KK hKK => ?_) AllReadyH.nil
              refine n9 _ ST HQ.out hn16 HLN.out HSRC.out HNIL.out (by rfl) (.tmp 53) (.tmp 54) (by rfl) (by rfl) (by rfl) ?_
              intro A9 c9 w9 ST
              refine hKK.out _ _ ?_ (fun hHeld2 => ?_)
              · try dsimp only
                try trivial
              clear hKK KK hHeld
              rename _ => hHeld
              try simp only [Act.put, List.setIfInBounds_toArray, List.set_cons_zero, List.set_cons_succ]
              refine wpAnyH_take (i := 10) (v := ?_) (at_list rfl) (by kernel_rfl) (by kernel_rfl) (by kernel_rfl) (fun _ _ _ h => h) (Or.inl ⟨by rfl, ?_⟩) (by assumption) ?_
              rotate_left
              · intro w hSw
                try dsimp only at hSw
                go_simp
                try with_reducible rfl
              simp only [Act.put, List.setIfInBounds_toArray, List.set_cons_zero, List.set_cons_succ]
              refine wpAnyH_ready (rs := [11]) (by kernel_rfl) (by simp) ?_
              refine AllReadyH.cons (at_list rfl) (fun KK hKK => ?_) AllReadyH.nil
              go_simp
              refine hKK.out _ _ ?_ (fun hHeld2 => ?_)
              · try dsimp only
                try trivial
              clear hKK KK hHeld
              rename _ => hHeld
              try simp only [Act.put, List.setIfInBounds_toArray, List.set_cons_zero, List.set_cons_succ]
              refine wpAnyH_take (i := 12) (v := ?_) (at_list rfl) (by kernel_rfl) (by kernel_rfl) (by kernel_rfl) (fun _ _ _ h => h) (Or.inl ⟨by rfl, ?_⟩) (by assumption) ?_
              rotate_left
              · intro w hSw
                try dsimp only at hSw
                go_simp
                try with_reducible rfl
              simp only [Act.put, List.setIfInBounds_toArray, List.set_cons_zero, List.set_cons_succ]
              refine wpAnyH_take (i := 13) (v := ?_) (at_list rfl) (by kernel_rfl) (by kernel_rfl) (by kernel_rfl) (fun _ _ _ h => h) (Or.inl ⟨by rfl, ?_⟩) (by assumption) ?_
              rotate_left
              · intro w hSw
                try dsimp only at hSw
                go_simp
                try with_reducible rfl
              simp only [Act.put, List.setIfInBounds_toArray, List.set_cons_zero, List.set_cons_succ]
              refine wpAnyH_done (by kernel_rfl) ?_ _
              refine NoPanic.normal ?_
              have HM := Lib.hid (ST.done HQ.out HLN.out HC0.out)
              go_wp2_with fail
              go_ret2
              exact .inl ⟨HC0.out, _, rfl, HM.out.1, HM.out.2⟩
            · skip
              refine n9 _ ST HQ.out hn16 HLN.out HSRC.out HNIL.out (by rfl) (.tmp 53) (.tmp 54) (by rfl) (by rfl) (by rfl) ?_
              intro A9 c9 w9 ST
              refine hKK.out _ _ ?_ (fun hHeld2 => ?_)
              · try dsimp only
                try trivial
              clear hKK KK hHeld
              rename _ => hHeld
              try simp only [Act.put, List.setIfInBounds_toArray, List.set_cons_zero, List.set_cons_succ]
              refine wpAnyH_ready (rs := [1]) (by kernel_rfl) (by simp) ?_
              refine AllReadyH.cons (at_list rfl) (fun KK hKK => ?_) AllReadyH.nil
              refine n1 _ ST hL (by rfl) (.tmp 46) (by rfl) (by rfl) ?_
              intro g1 w1 ST
              refine hKK.out _ _ ?_ (fun hHeld2 => ?_)
              · try dsimp only
                try trivial
              clear hKK KK hHeld
              rename _ => hHeld
              try simp only [Act.put, List.setIfInBounds_toArray, List.set_cons_zero, List.set_cons_succ]
              refine wpAnyH_take (i := 10) (v := ?_) (at_list rfl) (by kernel_rfl) (by kernel_rfl) (by kernel_rfl) (fun _ _ _ h => h) (Or.inl ⟨by rfl, ?_⟩) (by assumption) ?_
              rotate_left
              · intro w hSw
                try dsimp only at hSw
                go_simp
                try with_reducible rfl
              simp only [Act.put, List.setIfInBounds_toArray, List.set_cons_zero, List.set_cons_succ]
              refine wpAnyH_ready (rs := [11]) (by kernel_rfl) (by simp) ?_
              refine AllReadyH.cons (at_list rfl) (fun KK hKK => ?_) AllReadyH.nil
              go_simp
              refine hKK.out _ _ ?_ (fun hHeld2 => ?_)
              · try dsimp only
                try trivial
              clear hKK KK hHeld
              rename _ => hHeld
              try simp only [Act.put, List.setIfInBounds_toArray, List.set_cons_zero, List.set_cons_succ]
              refine wpAnyH_take (i := 12) (v := ?_) (at_list rfl) (by kernel_rfl) (by kernel_rfl) (by kernel_rfl) (fun _ _ _ h => h) (Or.inl ⟨by rfl, ?_⟩) (by assumption) ?_
              rotate_left
              · intro w hSw
                try dsimp only at hSw
                go_simp
                try with_reducible rfl
              simp only [Act.put, List.setIfInBounds_toArray, List.set_cons_zero, List.set_cons_succ]
              refine wpAnyH_take (i := 13) (v := ?_) (at_list rfl) (by kernel_rfl) (by kernel_rfl) (by kernel_rfl) (fun _ _ _ h => h) (Or.inl ⟨by rfl, ?_⟩) (by assumption) ?_
              rotate_left
              · intro w hSw
                try dsimp only at hSw
                go_simp
                try with_reducible rfl
              simp only [Act.put, List.setIfInBounds_toArray, List.set_cons_zero, List.set_cons_succ]
              refine wpAnyH_done (by kernel_rfl) ?_ _
              refine NoPanic.normal ?_
              have HM := Lib.hid (ST.done HQ.out HLN.out HC0.out)
              go_wp2_with fail
              go_ret2
              exact .inl ⟨HC0.out, _, rfl, HM.out.1, HM.out.2⟩
          · skip
            refine n9 _ ST HQ.out hn16 HLN.out HSRC.out HNIL.out (by rfl) (.tmp 53) (.tmp 54) (by rfl) (by rfl) (by rfl) ?_
            intro A9 c9 w9 ST
            refine hKK.out _ _ ?_ (fun hHeld2 => ?_)
            · try dsimp only
              try trivial
            clear hKK KK hHeld
            rename _ => hHeld
            try simp only [Act.put, List.setIfInBounds_toArray, List.set_cons_zero, List.set_cons_succ]
            refine wpAnyH_ready (rs := [1, 3]) (by kernel_rfl) (by simp) ?_
            refine AllReadyH.cons (at_list rfl) (fun KK hKK => ?_) (AllReadyH.cons (at_list rfl) (fun KK hKK => ?_) AllReadyH.nil)
            · skip
              refine n1 _ ST hL (by rfl) (.tmp 46) (by rfl) (by rfl) ?_
              intro g1 w1 ST
              refine hKK.out _ _ ?_ (fun hHeld2 => ?_)
              · try dsimp only
                try trivial
              clear hKK KK hHeld
              rename _ => hHeld
              try simp only [Act.put, List.setIfInBounds_toArray, List.set_cons_zero, List.set_cons_succ]
              refine wpAnyH_ready (rs := [3]) (by kernel_rfl) (by simp) ?_
              refine AllReadyH.cons (at_list rfl) (fun KK hKK => ?_) AllReadyH.nil
              refine n3 _ ST hm (by rfl) (.tmp 48) (by rfl) (by rfl) ?_
              intro g3 w3 ST
              refine hKK.out _ _ ?_ (fun hHeld2 => ?_)
              · try dsimp only
                try trivial
              clear hKK KK hHeld
              rename _ => hHeld
              try simp only [Act.put, List.setIfInBounds_toArray, List.set_cons_zero, List.set_cons_succ]
              refine wpAnyH_take (i := 10) (v := ?_) (at_list rfl) (by kernel_rfl) (by kernel_rfl) (by kernel_rfl) (fun _ _ _ h => h) (Or.inl ⟨by rfl, ?_⟩) (by assumption) ?_
              rotate_left
              · intro w hSw
                try dsimp only at hSw
                go_simp
                try with_reducible rfl
              simp only [Act.put, List.setIfInBounds_toArray, List.set_cons_zero, List.set_cons_succ]
              refine wpAnyH_ready (rs := [11]) (by kernel_rfl) (by simp) ?_
              refine AllReadyH.cons (at_list rfl) (fun KK hKK => ?_) AllReadyH.nil
              go_simp
              refine hKK.out _ _ ?_ (fun hHeld2 => ?_)
              · try dsimp only
                try trivial
              clear hKK KK hHeld
              rename _ => hHeld
              try simp only [Act.put, List.setIfInBounds_toArray, List.set_cons_zero, List.set_cons_succ]
              refine wpAnyH_take (i := 12) (v := ?_) (at_list rfl) (by kernel_rfl) (by kernel_rfl) (by kernel_rfl) (fun _ _ _ h => h) (Or.inl ⟨by rfl, ?_⟩) (by assumption) ?_
              rotate_left
              · intro w hSw
                try dsimp only at hSw
                go_simp
                try with_reducible rfl
              simp only [Act.put, List.setIfInBounds_toArray, List.set_cons_zero, List.set_cons_succ]
              refine wpAnyH_take (i := 13) (v := ?_) (at_list rfl) (by kernel_rfl) (by kernel_rfl) (by kernel_rfl) (fun _ _ _ h => h) (Or.inl ⟨by rfl, ?_⟩) (by assumption) ?_
              rotate_left
              · intro w hSw
                try dsimp only at hSw
                go_simp
                try with_reducible rfl
              simp only [Act.put, List.setIfInBounds_toArray, List.set_cons_zero, List.set_cons_succ]
              refine wpAnyH_done (by kernel_rfl) ?_ _
              refine NoPanic.normal ?_
              have HM := Lib.hid (ST.done HQ.out HLN.out HC0.out)
              go_wp2_with fail
              go_ret2
              exact .inl ⟨HC0.out, _, rfl, HM.out.1, HM.out.2⟩
            · skip
              refine n3 _ ST hm (by rfl) (.tmp 48) (by rfl) (by rfl) ?_
              intro g3 w3 ST
              refine hKK.out _ _ ?_ (fun hHeld2 => ?_)
              · try dsimp only
                try trivial
              clear hKK KK hHeld
              rename _ => hHeld
              try simp only [Act.put, List.setIfInBounds_toArray, List.set_cons_zero, List.set_cons_succ]
              refine wpAnyH_ready (rs := [1]) (by kernel_rfl) (by simp) ?_
              refine AllReadyH.cons (at_list rfl) (fun KK hKK => ?_) AllReadyH.nil
              refine n1 _ ST hL (by rfl) (.tmp 46) (by rfl) (by rfl) ?_
              intro g1 w1 ST
              refine hKK.out _ _ ?_ (fun hHeld2 => ?_)
              · try dsimp only
                try trivial
              clear hKK KK hHeld
              rename _ => hHeld
              try simp only [Act.put, List.setIfInBounds_toArray, List.set_cons_zero, List.set_cons_succ]
              refine wpAnyH_take (i := 10) (v := ?_) (at_list rfl) (by kernel_rfl) (by kernel_rfl) (by kernel_rfl) (fun _ _ _ h => h) (Or.inl ⟨by rfl, ?_⟩) (by assumption) ?_
              rotate_left
              · intro w hSw
                try dsimp only at hSw
                go_simp
                try with_reducible rfl
              simp only [Act.put, List.setIfInBounds_toArray, List.set_cons_zero, List.set_cons_succ]
              refine wpAnyH_ready (rs := [11]) (by kernel_rfl) (by simp) ?_
              refine AllReadyH.cons (at_list rfl) (fun KK hKK => ?_) AllReadyH.nil
              go_simp
              refine hKK.out _ _ ?_ (fun hHeld2 => ?_)
              · try dsimp only
                try trivial
              clear hKK KK hHeld
              rename _ => hHeld
              try simp only [Act.put, List.setIfInBounds_toArray, List.set_cons_zero, List.set_cons_succ]
              refine wpAnyH_take (i := 12) (v := ?_) (at_list rfl) (by kernel_rfl) (by kernel_rfl) (by kernel_rfl) (fun _ _ _ h => h) (Or.inl ⟨by rfl, ?_⟩) (by assumption) ?_
              rotate_left
              · intro w hSw
                try dsimp only at hSw
                go_simp
                try with_reducible rfl
              simp only [Act.put, List.setIfInBounds_toArray, List.set_cons_zero, List.set_cons_succ]
              refine wpAnyH_take (i := 13) (v := ?_) (at_list rfl) (by kernel_rfl) (by kernel_rfl) (by kernel_rfl) (fun _ _ _ h => h) (Or.inl ⟨by rfl, ?_⟩) (by assumption) ?_
              rotate_left
              · intro w hSw
                try dsimp only at hSw
                go_simp
                try with_reducible rfl
              simp only [Act.put, List.setIfInBounds_toArray, List.set_cons_zero, List.set_cons_succ]
              refine wpAnyH_done (by kernel_rfl) ?_ _
              refine NoPanic.normal ?_
              have HM := Lib.hid (ST.done HQ.out HLN.out HC0.out)
              go_wp2_with fail
              go_ret2
              exact .inl ⟨HC0.out, _, rfl, HM.out.1, HM.out.2⟩
        · skip
          refine n9 _ ST HQ.out hn16 HLN.out HSRC.out HNIL.out (by rfl) (.tmp 53) (.tmp 54) (by rfl) (by rfl) (by rfl) ?_
          intro A9 c9 w9 ST
          refine hKK.out _ _ ?_ (fun hHeld2 => ?_)
          · try dsimp only
            try trivial
          clear hKK KK hHeld
          rename _ => hHeld
          try simp only [Act.put, List.setIfInBounds_toArray, List.set_cons_zero, List.set_cons_succ]
          refine wpAnyH_ready (rs := [1, 3, 6]) (by kernel_rfl) (by simp) ?_
          refine AllReadyH.cons (at_list rfl) (fun KK hKK => ?_) (AllReadyH.cons (at_list rfl) (fun KK hKK => ?_) (AllReadyH.cons (at_list rfl) (fun KK hKK => ?_) AllReadyH.nil))
          · skip
            refine n1 _ ST hL (by rfl) (.tmp 46) (by rfl) (by rfl) ?_
            intro g1 w1 ST
            refine hKK.out _ _ ?_ (fun hHeld2 => ?_)
            · try dsimp only
              try trivial
            clear hKK KK hHeld
            rename _ => hHeld
            try simp only [Act.put, List.setIfInBounds_toArray, List.set_cons_zero, List.set_cons_succ]
            refine wpAnyH_ready (rs := [3, 6]) (by kernel_rfl) (by simp) ?_
            refine AllReadyH.cons (at_list rfl) (fun KK hKK => ?_) (AllReadyH.cons (at_list rfl) (fun KK hKK => ?_) AllReadyH.nil)
            · skip
              refine n3 _ ST hm (by rfl) (.tmp 48) (by rfl) (by rfl) ?_
              intro g3 w3 ST
              refine hKK.out _ _ ?_ (fun hHeld2 => ?_)
              · try dsimp only
                try trivial
              clear hKK KK hHeld
              rename _ => hHeld
              try simp only [Act.put, List.setIfInBounds_toArray, List.set_cons_zero, List.set_cons_succ]
              refine wpAnyH_ready (rs := [6]) (by kernel_rfl) (by simp) ?_
              refine AllReadyH.cons (at_list rfl) (fun KK hKK => ?_) AllReadyH.nil
              refine n6 _ ST hn64 (by rfl) (.tmp 51) (by rfl) (by rfl) ?_
              intro g6 w6 ST
              refine hKK.out _ _ ?_ (fun hHeld2 => ?_)
              · try dsimp only
                try trivial
              clear hKK KK hHeld
              rename _ => hHeld
              try simp only [Act.put, List.setIfInBounds_toArray, List.set_cons_zero, List.set_cons_succ]
              refine wpAnyH_take (i := 10) (v := ?_) (at_list rfl) (by kernel_rfl) (by kernel_rfl) (by kernel_rfl) (fun _ _ _ h => h) (Or.inl ⟨by rfl, ?_⟩) (by assumption) ?_
              rotate_left
              · intro w hSw
                try dsimp only at hSw
                go_simp
                try with_reducible rfl
              simp only [Act.put, List.setIfInBounds_toArray, List.set_cons_zero, List.set_cons_succ]
              refine wpAnyH_ready (rs := [11]) (by kernel_rfl) (by simp) ?_
              refine AllReadyH.cons (at_list rfl) (fun KK hKK => ?_) AllReadyH.nil
              go_simp
              refine hKK.out _ _ ?_ (fun hHeld2 => ?_)
              · try dsimp only
                try trivial
              clear hKK KK hHeld
              rename _ => hHeld
              try simp only [Act.put, List.setIfInBounds_toArray, List.set_cons_zero, List.set_cons_succ]
              refine wpAnyH_take (i := 12) (v := ?_) (at_list rfl) (by kernel_rfl) (by kernel_rfl) (by kernel_rfl) (fun _ _ _ h => h) (Or.inl ⟨by rfl, ?_⟩) (by assumption) ?_
              rotate_left
              · intro w hSw
                try dsimp only at hSw
                go_simp
                try with_reducible rfl
              simp only [Act.put, List.setIfInBounds_toArray, List.set_cons_zero, List.set_cons_succ]
              refine wpAnyH_take (i := 13) (v := ?_) (at_list rfl) (by kernel_rfl) (by kernel_rfl) (by kernel_rfl) (fun _ _ _ h => h) (Or.inl ⟨by rfl, ?_⟩) (by assumption) ?_
              rotate_left
              · intro w hSw
                try dsimp only at hSw
                go_simp
                try with_reducible rfl
              simp only [Act.put, List.setIfInBounds_toArray, List.set_cons_zero, List.set_cons_succ]
              refine wpAnyH_done (by kernel_rfl) ?_ _
              refine NoPanic.normal ?_
              have HM := Lib.hid (ST.done HQ.out HLN.out HC0.out)
              go_wp2_with fail
              go_ret2
              exact .inl ⟨HC0.out, _, rfl, HM.out.1, HM.out.2⟩
            · skip
              refine n6 _ ST hn64 (by rfl) (.tmp 51) (by rfl) (by rfl) ?_
              intro g6 w6 ST
              refine hKK.out _ _ ?_ (fun hHeld2 => ?_)
              · try dsimp only
                try trivial
              clear hKK KK hHeld
              rename _ => hHeld
              try simp only [Act.put, List.setIfInBounds_toArray, List.set_cons_zero, List.set_cons_succ]
              refine wpAnyH_ready (rs := [3]) (by kernel_rfl) (by simp) ?_
              refine AllReadyH.cons (at_list rfl) (fun KK hKK => ?_) AllReadyH.nil
              refine n3 _ ST hm (by rfl) (.tmp 48) (by rfl) (by rfl) ?_
              intro g3 w3 ST
              refine hKK.out _ _ ?_ (fun hHeld2 => ?_)
              · try dsimp only
                try trivial
              clear hKK KK hHeld
              rename _ => hHeld
              try simp only [Act.put, List.setIfInBounds_toArray, List.set_cons_zero, List.set_cons_succ]
              refine wpAnyH_take (i := 10) (v := ?_) (at_list rfl) (by kernel_rfl) (by kernel_rfl) (by kernel_rfl) (fun _ _ _ h => h) (Or.inl ⟨by rfl, ?_⟩) (by assumption) ?_
              rotate_left
              · intro w hSw
                try dsimp only at hSw
                go_simp
                try with_reducible rfl
              simp only [Act.put, List.setIfInBounds_toArray, List.set_cons_zero, List.set_cons_succ]
              refine wpAnyH_ready (rs := [11]) (by kernel_rfl) (by simp) ?_
              refine AllReadyH.cons (at_list rfl) (fun KK hKK => ?_) AllReadyH.nil
              go_simp
              refine hKK.out _ _ ?_ (fun hHeld2 => ?_)
              · try dsimp only
                try trivial
              clear hKK KK hHeld
              rename _ => hHeld
              try simp only [Act.put, List.setIfInBounds_toArray, List.set_cons_zero, List.set_cons_succ]
              refine wpAnyH_take (i := 12) (v := ?_) (at_list rfl) (by kernel_rfl) (by kernel_rfl) (by kernel_rfl) (fun _ _ _ h => h) (Or.inl ⟨by rfl, ?_⟩) (by assumption) ?_
              rotate_left
              · intro w hSw
                try dsimp only at hSw
                go_simp
                try with_reducible rfl
              simp only [Act.put, List.setIfInBounds_toArray, List.set_cons_zero, List.set_cons_succ]
              refine wpAnyH_take (i := 13) (v := ?_) (at_list rfl) (by kernel_rfl) (by kernel_rfl) (by kernel_rfl) (fun _ _ _ h => h) (Or.inl ⟨by rfl, ?_⟩) (by assumption) ?_
              rotate_left
              · intro w hSw
                try dsimp only at hSw
                go_simp
                try with_reducible rfl
              simp only [Act.put, List.setIfInBounds_toArray, List.set_cons_zero, List.set_cons_succ]
              refine wpAnyH_done (by kernel_rfl) ?_ _
              refine NoPanic.normal ?_
              have HM := Lib.hid (ST.done HQ.out HLN.out HC0.out)
              go_wp2_with fail
              go_ret2
              exact .inl ⟨HC0.out, _, rfl, HM.out.1, HM.out.2⟩
          · skip
            refine n3 _ ST hm (by rfl) (.tmp 48) (by rfl) (by rfl) ?_
            intro g3 w3 ST
            refine hKK.out _ _ ?_ (fun hHeld2 => ?_)
            · try dsimp only
              try trivial
            clear hKK KK hHeld
            rename _ => hHeld
            try simp only [Act.put, List.setIfInBounds_toArray, List.set_cons_zero, List.set_cons_succ]
            refine wpAnyH_ready (rs := [1, 6]) (by kernel_rfl) (by simp) ?_
            refine AllReadyH.cons (at_list rfl) (fun KK hKK => ?_) (AllReadyH.cons (at_list rfl) (fun KK hKK => ?_) AllReadyH.nil)
            · skip
              refine n1 _ ST hL (by rfl) (.tmp 46) (by rfl) (by rfl) ?_
              intro g1 w1 ST
              refine hKK.out _ _ ?_ (fun hHeld2 => ?_)
              · try dsimp only
                try trivial
              clear hKK KK hHeld
              rename _ => hHeld
              try simp only [Act.put, List.setIfInBounds_toArray, List.set_cons_zero, List.set_cons_succ]
              refine wpAnyH_ready (rs := [6]) (by kernel_rfl) (by simp) ?_
              refine AllReadyH.cons (at_list rfl) (fun KK hKK => ?_) AllReadyH.nil
              refine n6 _ ST hn64 (by rfl) (.tmp 51) (by rfl) (by rfl) ?_
              intro g6 w6 ST
              refine hKK.out _ _ ?_ (fun hHeld2 => ?_)
              · try dsimp only
                try trivial
              clear hKK KK hHeld
              rename _ => hHeld
              try simp only [Act.put, List.setIfInBounds_toArray, List.set_cons_zero, List.set_cons_succ]
              refine wpAnyH_take (i := 10) (v := ?_) (at_list rfl) (by kernel_rfl) (by kernel_rfl) (by kernel_rfl) (fun _ _ _ h => h) (Or.inl ⟨by rfl, ?_⟩) (by assumption) ?_
              rotate_left
              · intro w hSw
                try dsimp only at hSw
                go_simp
                try with_reducible rfl
              simp only [Act.put, List.setIfInBounds_toArray, List.set_cons_zero, List.set_cons_succ]
              refine wpAnyH_ready (rs := [11]) (by kernel_rfl) (by simp) ?_
              refine AllReadyH.cons (at_list rfl) (fun KK hKK => ?_) AllReadyH.nil
              go_simp
              refine hKK.out _ _ ?_ (fun hHeld2 => ?_)
              · try dsimp only
                try trivial
              clear hKK KK hHeld
              rename _ => hHeld
              try simp only [Act.put, List.setIfInBounds_toArray, List.set_cons_zero, List.set_cons_succ]
              refine wpAnyH_take (i := 12) (v := ?_) (at_list rfl) (by kernel_rfl) (by kernel_rfl) (by kernel_rfl) (fun _ _ _ h => h) (Or.inl ⟨by rfl, ?_⟩) (by assumption) ?_
              rotate_left
              · intro w hSw
                try dsimp only at hSw
                go_simp
                try with_reducible rfl
              simp only [Act.put, List.setIfInBounds_toArray, List.set_cons_zero, List.set_cons_succ]
              refine wpAnyH_take (i := 13) (v := ?_) (at_list rfl) (by kernel_rfl) (by kernel_rfl) (by kernel_rfl) (fun _ _ _ h => h) (Or.inl ⟨by rfl, ?_⟩) (by assumption) ?_
              rotate_left
              · intro w hSw
                try dsimp only at hSw
                go_simp
                try with_reducible rfl
              simp only [Act.put, List.setIfInBounds_toArray, List.set_cons_zero, List.set_cons_succ]
              refine wpAnyH_done (by kernel_rfl) ?_ _
              refine NoPanic.normal ?_
              have HM := Lib.hid (ST.done HQ.out HLN.out HC0.out)
              go_wp2_with fail
              go_ret2
              exact .inl ⟨HC0.out, _, rfl, HM.out.1, HM.out.2⟩
            · skip
              refine n6 _ ST hn64 (by rfl) (.tmp 51) (by rfl) (by rfl) ?_
              intro g6 w6 ST
              refine hKK.out _ _ ?_ (fun hHeld2 => ?_)
              · try dsimp only
                try trivial
              clear hKK KK hHeld
              rename _ => hHeld
              try simp only [Act.put, List.setIfInBounds_toArray, List.set_cons_zero, List.set_cons_succ]
              refine wpAnyH_ready (rs := [1]) (by kernel_rfl) (by simp) ?_
              refine AllReadyH.cons (at_list rfl) (fun KK hKK => ?_) AllReadyH.nil
              refine n1 _ ST hL (by rfl) (.tmp 46) (by rfl) (by rfl) ?_
              intro g1 w1 ST
              refine hKK.out _ _ ?_ (fun hHeld2 => ?_)
              · try dsimp only
                try trivial
              clear hKK KK hHeld
              rename _ => hHeld
              try simp only [Act.put, List.setIfInBounds_toArray, List.set_cons_zero, List.set_cons_succ]
              refine wpAnyH_take (i := 10) (v := ?_) (at_list rfl) (by kernel_rfl) (by kernel_rfl) (by kernel_rfl) (fun _ _ _ h => h) (Or.inl ⟨by rfl, ?_⟩) (by assumption) ?_
              rotate_left
              · intro w hSw
                try dsimp only at hSw
                go_simp
                try with_reducible rfl
              simp only [Act.put, List.setIfInBounds_toArray, List.set_cons_zero, List.set_cons_succ]
              refine wpAnyH_ready (rs := [11]) (by kernel_rfl) (by simp) ?_
              refine AllReadyH.cons (at_list rfl) (fun KK hKK => ?_) AllReadyH.nil
              go_simp
              refine hKK.out _ _ ?_ (fun hHeld2 => ?_)
              · try dsimp only
                try trivial
              clear hKK KK hHeld
              rename _ => hHeld
              try simp only [Act.put, List.setIfInBounds_toArray, List.set_cons_zero, List.set_cons_succ]
              refine wpAnyH_take (i := 12) (v := ?_) (at_list rfl) (by kernel_rfl) (by kernel_rfl) (by kernel_rfl) (fun _ _ _ h => h) (Or.inl ⟨by rfl, ?_⟩) (by assumption) ?_
              rotate_left
              · intro w hSw
                try dsimp only at hSw
                go_simp
                try with_reducible rfl
              simp only [Act.put, List.setIfInBounds_toArray, List.set_cons_zero, List.set_cons_succ]
              refine wpAnyH_take (i := 13) (v := ?_) (at_list rfl) (by kernel_rfl) (by kernel_rfl) (by kernel_rfl) (fun _ _ _ h => h) (Or.inl ⟨by rfl, ?_⟩) (by assumption) ?_
              rotate_left
              · intro w hSw
                try dsimp only at hSw
                go_simp
                try with_reducible rfl
              simp only [Act.put, List.setIfInBounds_toArray, List.set_cons_zero, List.set_cons_succ]
              refine wpAnyH_done (by kernel_rfl) ?_ _
              refine NoPanic.normal ?_
              have HM := Lib.hid (ST.done HQ.out HLN.out HC0.out)
              go_wp2_with fail
              go_ret2
              exact .inl ⟨HC0.out, _, rfl, HM.out.1, HM.out.2⟩
          · skip
            refine n6 _ ST hn64 (by rfl) (.tmp 51) (by rfl) (by rfl) ?_
            intro g6 w6 ST
            refine hKK.out _ _ ?_ (fun hHeld2 => ?_)
            · try dsimp only
              try trivial
            clear hKK KK hHeld
            rename _ => hHeld
            try simp only [Act.put, List.setIfInBounds_toArray, List.set_cons_zero, List.set_cons_succ]
            refine wpAnyH_ready (rs := [1, 3]) (by kernel_rfl) (by simp) ?_
            refine AllReadyH.cons (at_list rfl) (fun KK hKK => ?_) (AllReadyH.cons (at_list rfl) (fun KK hKK => ?_) AllReadyH.nil)
            · skip
              refine n1 _ ST hL (by rfl) (.tmp 46) (by rfl) (by rfl) ?_
              intro g1 w1 ST
              refine hKK.out _ _ ?_ (fun hHeld2 => ?_)
              · try dsimp only
                try trivial
              clear hKK KK hHeld
              rename _ => hHeld
              try simp only [Act.put, List.setIfInBounds_toArray, List.set_cons_zero, List.set_cons_succ]
              refine wpAnyH_ready (rs := [3]) (by kernel_rfl) (by simp) ?_
              refine AllReadyH.cons (at_list rfl) (fun KK hKK => ?_) AllReadyH.nil
              refine n3 _ ST hm (by rfl) (.tmp 48) (by rfl) (by rfl) ?_
              intro g3 w3 ST
              refine hKK.out _ _ ?_ (fun hHeld2 => ?_)
              · try dsimp only
                try trivial
              clear hKK KK hHeld
              rename _ => hHeld
              try simp only [Act.put, List.setIfInBounds_toArray, List.set_cons_zero, List.set_cons_succ]
              refine wpAnyH_take (i := 10) (v := ?_) (at_list rfl) (by kernel_rfl) (by kernel_rfl) (by kernel_rfl) (fun _ _ _ h => h) (Or.inl ⟨by rfl, ?_⟩) (by assumption) ?_
              rotate_left
              · intro w hSw
                try dsimp only at hSw
                go_simp
                try with_reducible rfl
              simp only [Act.put, List.setIfInBounds_toArray, List.set_cons_zero, List.set_cons_succ]
              refine wpAnyH_ready (rs := [11]) (by kernel_rfl) (by simp) ?_
              refine AllReadyH.cons (at_list rfl) (fun KK hKK => ?_) AllReadyH.nil
              go_simp
              refine hKK.out _ _ ?_ (fun hHeld2 => ?_)
              · try dsimp only
                try trivial
              clear hKK KK hHeld
              rename _ => hHeld
              try simp only [Act.put, List.setIfInBounds_toArray, List.set_cons_zero, List.set_cons_succ]
              refine wpAnyH_take (i := 12) (v := ?_) (at_list rfl) (by kernel_rfl) (by kernel_rfl) (by kernel_rfl) (fun _ _ _ h => h) (Or.inl ⟨by rfl, ?_⟩) (by assumption) ?_
              rotate_left
              · intro w hSw
                try dsimp only at hSw
                go_simp
                try with_reducible rfl
              simp only [Act.put, List.setIfInBounds_toArray, List.set_cons_zero, List.set_cons_succ]
              refine wpAnyH_take (i := 13) (v := ?_) (at_list rfl) (by kernel_rfl) (by kernel_rfl) (by kernel_rfl) (fun _ _ _ h => h) (Or.inl ⟨by rfl, ?_⟩) (by assumption) ?_
              rotate_left
              · intro w hSw
                try dsimp only at hSw
                go_simp
                try with_reducible rfl
              simp only [Act.put, List.setIfInBounds_toArray, List.set_cons_zero, List.set_cons_succ]
              refine wpAnyH_done (by kernel_rfl) ?_ _
              refine NoPanic.normal ?_
              have HM := Lib.hid (ST.done HQ.out HLN.out HC0.out)
              go_wp2_with fail
              go_ret2
              exact .inl ⟨HC0.out, _, rfl, HM.out.1, HM.out.2⟩
            · skip
              refine n3 _ ST hm (by rfl) (.tmp 48) (by rfl) (by rfl) ?_
              intro g3 w3 ST
              refine hKK.out _ _ ?_ (fun hHeld2 => ?_)
              · try dsimp only
                try trivial
              clear hKK KK hHeld
              rename _ => hHeld
              try simp only [Act.put, List.setIfInBounds_toArray, List.set_cons_zero, List.set_cons_succ]
              refine wpAnyH_ready (rs := [1]) (by kernel_rfl) (by simp) ?_
              refine AllReadyH.cons (at_list rfl) (fun KK hKK => ?_) AllReadyH.nil
              refine n1 _ ST hL (by rfl) (.tmp 46) (by rfl) (by rfl) ?_
              intro g1 w1 ST
              refine hKK.out _ _ ?_ (fun hHeld2 => ?_)
              · try dsimp only
                try trivial
              clear hKK KK hHeld
              rename _ => hHeld
              try simp only [Act.put, List.setIfInBounds_toArray, List.set_cons_zero, List.set_cons_succ]
              refine wpAnyH_take (i := 10) (v := ?_) (at_list rfl) (by kernel_rfl) (by kernel_rfl) (by kernel_rfl) (fun _ _ _ h => h) (Or.inl ⟨by rfl, ?_⟩) (by assumption) ?_
              rotate_left
              · intro w hSw
                try dsimp only at hSw
                go_simp
                try with_reducible rfl
              simp only [Act.put, List.setIfInBounds_toArray, List.set_cons_zero, List.set_cons_succ]
              refine wpAnyH_ready (rs := [11]) (by kernel_rfl) (by simp) ?_
              refine AllReadyH.cons (at_list rfl) (fun KK hKK => ?_) AllReadyH.nil
              go_simp
              refine hKK.out _ _ ?_ (fun hHeld2 => ?_)
              · try dsimp only
                try trivial
              clear hKK KK hHeld
              rename _ => hHeld
              try simp only [Act.put, List.setIfInBounds_toArray, List.set_cons_zero, List.set_cons_succ]
              refine wpAnyH_take (i := 12) (v := ?_) (at_list rfl) (by kernel_rfl) (by kernel_rfl) (by kernel_rfl) (fun _ _ _ h => h) (Or.inl ⟨by rfl, ?_⟩) (by assumption) ?_
              rotate_left
              · intro w hSw
                try dsimp only at hSw
                go_simp
                try with_reducible rfl
              simp only [Act.put, List.setIfInBounds_toArray, List.set_cons_zero, List.set_cons_succ]
              refine wpAnyH_take (i := 13) (v := ?_) (at_list rfl) (by kernel_rfl) (by kernel_rfl) (by kernel_rfl) (fun _ _ _ h => h) (Or.inl ⟨by rfl, ?_⟩) (by assumption) ?_
              rotate_left
              · intro w hSw
                try dsimp only at hSw
                go_simp
                try with_reducible rfl
              simp only [Act.put, List.setIfInBounds_toArray, List.set_cons_zero, List.set_cons_succ]
              refine wpAnyH_done (by kernel_rfl) ?_ _
              refine NoPanic.normal ?_
              have HM := Lib.hid (ST.done HQ.out HLN.out HC0.out)
              go_wp2_with fail
              go_ret2
              exact .inl ⟨HC0.out, _, rfl, HM.out.1, HM.out.2⟩
end Go.Proofs.Ytgdjbmfpbihopaa
