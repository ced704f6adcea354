/- The walk of ref18's Two. -/
import Derived.Test.YtacmigimkdiagaaPlanTwo
namespace Go.Proofs.Ytacmigimkdiagaa
open Go.RowKit
set_option linter.unusedVariables false
set_option linter.unusedSimpArgs false

theorem two_none {l : List (Int × Int)} {j : Nat} {s : Int × List Int} {d : Int × Int} (hs : l.drop j = d :: l.drop (j + 1)) (ht : twoGo (l.drop j) s = twoB l) (hm : mayS s d = none) : false = twoB l := by
  rw [← ht, hs, twoGo, hm]
theorem two_some {l : List (Int × Int)} {j : Nat} {s s' : Int × List Int} {d : Int × Int} (hs : l.drop j = d :: l.drop (j + 1)) (ht : twoGo (l.drop j) s = twoB l) (hm : mayS s d = some s') (h2 : s'.1 ≠ 2) : twoGo (l.drop (j + 1)) s' = twoB l := by
  rw [← ht, hs, twoGo, hm]
  simp only
  rw [if_neg h2]
theorem two_last {l : List (Int × Int)} {j : Nat} {s s' : Int × List Int} {d : Int × Int} (hj : j < l.length) (hs : l.drop j = d :: l.drop (j + 1)) (ht : twoGo (l.drop j) s = twoB l) (hm : mayS s d = some s') (h2 : s'.1 = 2) : ((j : Int) == (l.length : Int) - 1) = twoB l := by
  rw [← ht, hs, twoGo, hm]
  simp only
  rw [if_pos h2, List.length_drop, Bool.eq_iff_iff]
  simp
  omega
theorem may_one (st : Int) (L : List Int) (di : Int) : mayS (st, L) (1, di) = if st = 0 ∧ aboveB L di = true then some (0, L ++ [di]) else none := rfl
theorem may_two (st : Int) (L : List Int) (di : Int) : mayS (st, L) (2, di) = if st = 0 ∧ di ∈ L then some (st, L) else none := rfl
theorem may_three (st : Int) (L : List Int) (di : Int) : mayS (st, L) (3, di) = if st = 0 ∧ di = 0 then some (1, L) else none := rfl
theorem may_four (st : Int) (L : List Int) (di : Int) : mayS (st, L) (4, di) = if st = 1 ∧ di ∈ L then some (1, lessL L [di]) else none := rfl
theorem may_five (st : Int) (L : List Int) (di : Int) : mayS (st, L) (5, di) = if st = 1 ∧ L.length = 0 ∧ di = 0 then some (2, L) else none := rfl
theorem may_other {st : Int} {L : List Int} {k di : Int} (h1 : (k == 1) = false) (h2 : (k == 2) = false) (h3 : (k == 3) = false) (h4 : (k == 4) = false) (h5 : (k == 5) = false) : mayS (st, L) (k, di) = none := by
  unfold mayS
  simp only
  rw [if_neg (by simpa using h1), if_neg (by simpa using h2), if_neg (by simpa using h3), if_neg (by simpa using h4), if_neg (by simpa using h5)]
theorem two_five {l : List (Int × Int)} {j : Nat} {L : List Int} {di : Int} (hj : j < l.length) (hs : l.drop j = (5, di) :: l.drop (j + 1)) (ht : twoGo (l.drop j) (1, L) = twoB l) : (di == 0 && ((j : Int) == (l.length : Int) - 1) && decide (L.length = 0)) = twoB l := by
  by_cases hc : L.length = 0 ∧ di = 0
  · rw [← two_last hj hs ht (by rw [may_five, if_pos ⟨rfl, hc⟩]) rfl]
    simp [hc.1, hc.2]
  · rw [← two_none hs ht (by rw [may_five, if_neg (fun h => hc h.2)])]
    by_cases h0 : di = 0
    · have : L.length ≠ 0 := fun h => hc ⟨h, h0⟩
      simp [List.length_eq_zero_iff] at this
      simp [this]
    · simp [h0]

/-- The state of the walk of ref18's Two. -/
def TwoRel (l : List (Int × Int)) (j base : Nat) (h dn fr : Value) (w : World) : Prop := ∃ (st : Int) (L : List Int) (f : Bool), fr = .bool f ∧ IntsAt w h L ∧ L.length ≤ j ∧ twoGo (l.drop j) (st, L) = twoB l ∧
  ((st = 0 ∧ dn = .bool false ∧ f = false ∧ OwnInts w base h L) ∨ (st = 1 ∧ dn = .bool true))

set_option maxHeartbeats 4000000 in
set_option maxRecDepth 100000 in
theorem ref18_two (l : List (Int × Int)) (v : Value) (w : World) (hl : PlanAt w v l) (hlen : l.length ≤ 1000000) :
    Calls Try.prog 20 #[v] w fun r w' => r = .returned (.bool (twoB l)) ∧ Below w.heap.size w w' := by
  have HPL := Lib.hid hl
  obtain ⟨al, cl, rfl, hl1, hl2, hl3, hl4⟩ := hl
  clear hl3 hl4
  unfold maxLen at hl2
  go_enter Try.func20, Try.ntmps20
  go_wp2
  go_loopw [3, 4, 5, 6] (fun h dn fr i wr => ∃ j : Nat, j ≤ l.length ∧ i = .int .i64 j ∧ Hid (TwoRel l j w.heap.size h dn fr wr) ∧ Below w.heap.size w wr) (fun _ _ _ i _ => l.length - (intOf i).toNat)
  case atStart => exact ⟨0, Nat.zero_le _, rfl, ⟨0, [], false, rfl, IntsAt.nil _, Nat.zero_le _, rfl, .inl ⟨rfl, rfl, rfl, OwnInts.nil _ _⟩⟩, Below.refl _ _⟩
  case round =>
    obtain ⟨j, hj, rfl, HT, hbel⟩ := hrel
    have hsz := hbel.size
    obtain ⟨st, L, f, rfl, hi, hLj, htw, hst⟩ := HT.out
    have HTW := Lib.hid htw
    clear htw HT
    obtain ⟨a, ca, hv, hi1, hi2, _⟩ := id hi
    obtain ⟨n, hn⟩ : ∃ n, L.length = n := ⟨_, rfl⟩
    rw [hn] at hv hi1 hLj
    have HN := Lib.hid hn
    clear hn
    subst hv
    unfold maxLen at hi2
    have HI := Lib.hid hi
    clear hi
    by_cases hlt : j < l.length
    · obtain ⟨b0, o0, d, hal, hb0, hkd, c1, c2⟩ := PlanAt.get2 (HPL.out.below hbel) hlt
      subst hal
      have HS := Lib.hid (drop_cons_of hkd)
      obtain ⟨dk, di⟩ := d
      simp only at c1 c2
      clear hkd
      have hbd : ∀ o, Below w.heap.size w (wr.alloc o) := fun o => hbel.alloc hsz o
      rcases hst with ⟨hst0, rfl, rfl, hown⟩ | ⟨hst1, rfl⟩
      · subst hst0
        have HOWN := Lib.hid hown
        clear hown
        cases h1 : (dk == 1) with
        | true =>
          obtain rfl : dk = 1 := by simpa using h1
          clear h1
          go_wp2
          obtain ⟨W1, hW1⟩ : ∃ W1, wr.alloc (.cells #[.int .i64 1, .int .i64 di] 36) = W1 := ⟨_, rfl⟩
          have d0 : W1.cell? ⟨wr.heap.size, 0, none⟩ = some (.int .i64 1) := by rw [← hW1]; simp [go_sem]
          have d1 : W1.cell? ⟨wr.heap.size, 1, none⟩ = some (.int .i64 di) := by rw [← hW1]; simp [go_sem]
          have hs1 : wr.heap.size < W1.heap.size := by rw [← hW1]; simp
          have hbw : Below wr.heap.size wr W1 := by rw [← hW1]; exact (Below.refl _ _).alloc (Nat.le_refl _) _
          have hbel1 : Below w.heap.size w W1 := by rw [← hW1]; exact hbd _
          have HI1 := Lib.hid (HI.out.below hbw)
          have HO1 := Lib.hid (OwnInts.below HOWN.out hbw)
          rw [hW1]
          clear hW1 hbw HI HOWN hbd
          rcases Nat.eq_zero_or_pos n with hn0 | hn0
          · subst hn0
            have HE := Lib.hid (two_some HS.out HTW.out (by rw [may_one, if_pos ⟨rfl, by unfold aboveB; rw [HN.out]; rfl⟩]) (by simp))
            go_wp2
            refine wp_region_lex (fun w' => Below W1.heap.size W1 w' ∧ (∀ b o, b < W1.heap.size → w'.cell? ⟨b, o, none⟩ = W1.cell? ⟨b, o, none⟩) ∧ ∀ b o, b < W1.heap.size → w'.frozen? ⟨b, o, none⟩ = W1.frozen? ⟨b, o, none⟩) (by kernel_rfl) (by kernel_rfl) (Keeps.atDraw _) ?_
            repeat (first
              | (apply Lex.take
                 · rfl
                 · (intro w' hS; go_simp; exact ⟨rfl, hS⟩)
                 simp only [Act.put, List.setIfInBounds_toArray, List.set_cons_zero, List.set_cons_succ])
              | (apply Lex.leave
                 · rfl
                 simp only [Act.put, List.setIfInBounds_toArray, List.set_cons_zero, List.set_cons_succ]))
            refine Lex.nil ?_
            intro W2 hS
            obtain ⟨hbW, hcW, hfW⟩ := hS
            rw [← hcW _ _ (by omega)] at d0 d1
            have hs2 := hbW.size
            have hbel2 : Below w.heap.size w W2 := bstep hbel1 (Nat.le_refl _) hbW
            have HO2 := Lib.hid (OwnInts.below HO1.out hbW)
            clear hcW hfW hbW HI1 HO1
            go_wp2_with (at_builtin; refine wpList_append_ints rfl (.tmp 42) (.tmp 45) rfl w.heap.size _ L rfl (OwnInts.alloc HO2.out _) _ [di] rfl (IntsAt.lit1 _ _) ?_ ?_ ?_)
            · rw [HN.out, List.length_singleton]; omega
            · simp; omega
            intro v1 w5 hown5 hg5 hb5
            have HV5 := Lib.hid hown5
            have hbel5 : Below w.heap.size w w5 := (hbel2.alloc (by omega) _).trans hb5
            clear hown5 hg5 hb5
            go_wp2
            exact ⟨⟨j + 1, hlt, by go_num, ⟨0, L ++ [di], false, rfl, HV5.out.ints, by rw [List.length_append, HN.out, List.length_singleton]; omega, HE.out, .inl ⟨rfl, rfl, rfl, HV5.out⟩⟩, hbel5⟩, by simp [intOf]; omega⟩
          · obtain ⟨m, rfl⟩ : ∃ m, n = m + 1 := ⟨n - 1, by omega⟩
            obtain ⟨b1, o1, rfl, hb1, e1⟩ := HI1.out.get (k := m) (by rw [HN.out]; omega)
            obtain ⟨x, hx⟩ : ∃ x, L.getD m 0 = x := ⟨_, rfl⟩
            rw [hx] at e1
            have HX := Lib.hid hx
            clear hx
            have i0 : (0 : Int) ≤ (m : Int) := by omega
            have i1 : (m : Int) < (m : Int) + 1 := by omega
            have wm : IntKind.i64.wrap (m : Int) = m := IntWalk.i64_in _ (by omega)
            by_cases hge : di ≤ x
            · have HE := Lib.hid (two_none HS.out HTW.out (by
                rw [may_one, if_neg]
                rintro ⟨_, h⟩
                unfold aboveB at h
                rw [HN.out, Nat.add_sub_cancel, HX.out] at h
                simp at h
                omega))
              go_wp2
              refine wp_region_lex (fun w' => Below W1.heap.size W1 w' ∧ (∀ b o, b < W1.heap.size → w'.cell? ⟨b, o, none⟩ = W1.cell? ⟨b, o, none⟩) ∧ ∀ b o, b < W1.heap.size → w'.frozen? ⟨b, o, none⟩ = W1.frozen? ⟨b, o, none⟩) (by kernel_rfl) (by kernel_rfl) (Keeps.atDraw _) ?_
              repeat (first
                | (apply Lex.take
                   · rfl
                   · (intro w' hS; go_simp; exact ⟨rfl, hS⟩)
                   simp only [Act.put, List.setIfInBounds_toArray, List.set_cons_zero, List.set_cons_succ])
                | (apply Lex.leave
                   · rfl
                   simp only [Act.put, List.setIfInBounds_toArray, List.set_cons_zero, List.set_cons_succ]))
              refine Lex.nil ?_
              intro W2 hS
              obtain ⟨hbW, hcW, hfW⟩ := hS
              clear wm
              go_wp2
              go_ret
              exact ⟨ret_bool HE.out, bstep hbel1 (Nat.le_refl _) hbW⟩
            · have HE := Lib.hid (two_some HS.out HTW.out (by
                rw [may_one, if_pos]
                refine ⟨rfl, ?_⟩
                unfold aboveB
                rw [HN.out, Nat.add_sub_cancel, HX.out]
                simp
                omega) (by simp))
              go_wp2
              refine wp_region_lex (fun w' => Below W1.heap.size W1 w' ∧ (∀ b o, b < W1.heap.size → w'.cell? ⟨b, o, none⟩ = W1.cell? ⟨b, o, none⟩) ∧ ∀ b o, b < W1.heap.size → w'.frozen? ⟨b, o, none⟩ = W1.frozen? ⟨b, o, none⟩) (by kernel_rfl) (by kernel_rfl) (Keeps.atDraw _) ?_
              repeat (first
                | (apply Lex.take
                   · rfl
                   · (intro w' hS; go_simp; exact ⟨rfl, hS⟩)
                   simp only [Act.put, List.setIfInBounds_toArray, List.set_cons_zero, List.set_cons_succ])
                | (apply Lex.leave
                   · rfl
                   simp only [Act.put, List.setIfInBounds_toArray, List.set_cons_zero, List.set_cons_succ]))
              refine Lex.nil ?_
              intro W2 hS
              obtain ⟨hbW, hcW, hfW⟩ := hS
              clear wm
              rw [← hcW _ _ (by omega)] at d0 d1
              have hs2 := hbW.size
              have hbel2 : Below w.heap.size w W2 := bstep hbel1 (Nat.le_refl _) hbW
              have HO2 := Lib.hid (OwnInts.below HO1.out hbW)
              clear hcW hfW hbW HI1 HO1
              go_wp2_with (at_builtin; refine wpList_append_ints rfl (.tmp 42) (.tmp 45) rfl w.heap.size _ L rfl (OwnInts.alloc HO2.out _) _ [di] rfl (IntsAt.lit1 _ _) ?_ ?_ ?_)
              · rw [HN.out, List.length_singleton]; omega
              · simp; omega
              intro v1 w5 hown5 hg5 hb5
              have HV5 := Lib.hid hown5
              have hbel5 : Below w.heap.size w w5 := (hbel2.alloc (by omega) _).trans hb5
              clear hown5 hg5 hb5
              go_wp2
              exact ⟨⟨j + 1, hlt, by go_num, ⟨0, L ++ [di], false, rfl, HV5.out.ints, by rw [List.length_append, HN.out, List.length_singleton]; omega, HE.out, .inl ⟨rfl, rfl, rfl, HV5.out⟩⟩, hbel5⟩, by simp [intOf]; omega⟩
        | false =>
          cases h2 : (dk == 2) with
          | true =>
            obtain rfl : dk = 2 := by simpa using h2
            clear h1 h2
            cases hin : decide (di ∈ L) with
            | true =>
              have HE := Lib.hid (two_some HS.out HTW.out (by rw [may_two, if_pos ⟨rfl, by simpa using hin⟩]) (by simp))
              go_wp2_with (go_at_call 25; refine (ref04_in L _ _ _ (HI.out.alloc _)).mono ?_; rintro e w' ⟨rfl, rfl⟩; simp only [hin])
              exact ⟨⟨j + 1, hlt, by go_num, ⟨0, L, false, rfl, HI.out.alloc _, by rw [HN.out]; omega, HE.out, .inl ⟨rfl, rfl, rfl, OwnInts.alloc HOWN.out _⟩⟩, hbd _⟩, by simp [intOf]; omega⟩
            | false =>
              have HE := Lib.hid (two_none HS.out HTW.out (by rw [may_two, if_neg (fun h => absurd h.2 (by simpa using hin))]))
              go_wp2_with (go_at_call 25; refine (ref04_in L _ _ _ (HI.out.alloc _)).mono ?_; rintro e w' ⟨rfl, rfl⟩; simp only [hin])
              go_ret
              exact ⟨ret_bool HE.out, hbd _⟩
          | false =>
            cases h3 : (dk == 3) with
            | true =>
              obtain rfl : dk = 3 := by simpa using h3
              clear h1 h2 h3
              cases hdi : (di != 0) with
              | true =>
                have HE := Lib.hid (two_none HS.out HTW.out (by rw [may_three, if_neg (fun h => absurd h.2 (by simpa using hdi))]))
                go_wp2
                go_ret
                exact ⟨ret_bool HE.out, hbd _⟩
              | false =>
                have HE := Lib.hid (two_some HS.out HTW.out (by rw [may_three, if_pos ⟨rfl, by simpa using hdi⟩]) (by simp))
                go_wp2
                exact ⟨⟨j + 1, hlt, by go_num, ⟨1, L, false, rfl, HI.out.alloc _, by rw [HN.out]; omega, HE.out, .inr ⟨rfl, rfl⟩⟩, hbd _⟩, by simp [intOf]; omega⟩
            | false =>
              cases h4 : (dk == 4) with
              | true =>
                obtain rfl : dk = 4 := by simpa using h4
                have HE := Lib.hid (two_none HS.out HTW.out (by rw [may_four, if_neg (fun h => absurd h.1 (by decide))]))
                clear h1 h2 h3 h4
                go_wp2
                go_ret
                exact ⟨ret_bool HE.out, hbd _⟩
              | false =>
                cases h5 : (dk == 5) with
                | true =>
                  obtain rfl : dk = 5 := by simpa using h5
                  have HE := Lib.hid (two_none HS.out HTW.out (by rw [may_five, if_neg (fun h => absurd h.1 (by decide))]))
                  clear h1 h2 h3 h4 h5
                  have wl : IntKind.i64.wrap ((l.length : Int) - 1) = (l.length : Int) - 1 := IntWalk.i64_in _ (by omega)
                  cases hdi : (di == 0) with
                  | true =>
                    cases hjl : ((j : Int) == (l.length : Int) - 1) with
                    | true =>
                      go_wp2
                      go_ret
                      exact ⟨ret_bool HE.out, hbd _⟩
                    | false =>
                      go_wp2
                      go_ret
                      exact ⟨ret_bool HE.out, hbd _⟩
                  | false =>
                    go_wp2
                    go_ret
                    exact ⟨ret_bool HE.out, hbd _⟩
                | false =>
                  have HE := Lib.hid (two_none HS.out HTW.out (may_other h1 h2 h3 h4 h5))
                  go_wp2
                  go_ret
                  exact ⟨ret_bool HE.out, hbd _⟩
      · subst hst1
        cases h1 : (dk == 1) with
        | true =>
          obtain rfl : dk = 1 := by simpa using h1
          clear h1
          have HE := Lib.hid (two_none HS.out HTW.out (by rw [may_one, if_neg (fun h => absurd h.1 (by decide))]))
          go_wp2
          obtain ⟨W1, hW1⟩ : ∃ W1, wr.alloc (.cells #[.int .i64 1, .int .i64 di] 36) = W1 := ⟨_, rfl⟩
          have d0 : W1.cell? ⟨wr.heap.size, 0, none⟩ = some (.int .i64 1) := by rw [← hW1]; simp [go_sem]
          have d1 : W1.cell? ⟨wr.heap.size, 1, none⟩ = some (.int .i64 di) := by rw [← hW1]; simp [go_sem]
          have hs1 : wr.heap.size < W1.heap.size := by rw [← hW1]; simp
          have hbel1 : Below w.heap.size w W1 := by rw [← hW1]; exact hbd _
          rw [hW1]
          clear hW1 hbd
          refine wp_region_lex (fun w' => Below W1.heap.size W1 w' ∧ (∀ b o, b < W1.heap.size → w'.cell? ⟨b, o, none⟩ = W1.cell? ⟨b, o, none⟩) ∧ ∀ b o, b < W1.heap.size → w'.frozen? ⟨b, o, none⟩ = W1.frozen? ⟨b, o, none⟩) (by kernel_rfl) (by kernel_rfl) (Keeps.atDraw _) ?_
          repeat (first
            | (apply Lex.take
               · rfl
               · (intro w' hS; go_simp; exact ⟨rfl, hS⟩)
               simp only [Act.put, List.setIfInBounds_toArray, List.set_cons_zero, List.set_cons_succ])
            | (apply Lex.leave
               · rfl
               simp only [Act.put, List.setIfInBounds_toArray, List.set_cons_zero, List.set_cons_succ]))
          refine Lex.nil ?_
          intro W2 hS
          obtain ⟨hbW, hcW, hfW⟩ := hS
          go_wp2
          go_ret
          exact ⟨ret_bool HE.out, bstep hbel1 (Nat.le_refl _) hbW⟩
        | false =>
          cases h2 : (dk == 2) with
          | true =>
            obtain rfl : dk = 2 := by simpa using h2
            clear h1 h2
            have HE := Lib.hid (two_none HS.out HTW.out (by rw [may_two, if_neg (fun h => absurd h.1 (by decide))]))
            go_wp2
            go_ret
            exact ⟨ret_bool HE.out, hbd _⟩
          | false =>
            cases h3 : (dk == 3) with
            | true =>
              obtain rfl : dk = 3 := by simpa using h3
              clear h1 h2 h3
              have HE := Lib.hid (two_none HS.out HTW.out (by rw [may_three, if_neg (fun h => absurd h.1 (by decide))]))
              go_wp2
              go_ret
              exact ⟨ret_bool HE.out, hbd _⟩
            | false =>
              cases h4 : (dk == 4) with
              | true =>
                obtain rfl : dk = 4 := by simpa using h4
                clear h1 h2 h3 h4
                cases hin : decide (di ∈ L) with
                | false =>
                  have HE := Lib.hid (two_none HS.out HTW.out (by rw [may_four, if_neg (fun h => absurd h.2 (by simpa using hin))]))
                  go_wp2_with (go_at_call 25; refine (ref04_in L _ _ _ (HI.out.alloc _)).mono ?_; rintro e w' ⟨rfl, rfl⟩; simp only [hin])
                  go_ret
                  exact ⟨ret_bool HE.out, hbd _⟩
                | true =>
                  have HE := Lib.hid (two_some HS.out HTW.out (by rw [may_four, if_pos ⟨rfl, by simpa using hin⟩]) (by simp))
                  go_wp2_with (first | (go_at_call 25; refine (ref04_in L _ _ _ (HI.out.alloc _)).mono ?_; rintro e w' ⟨rfl, rfl⟩; simp only [hin]) | fail)
                  refine (ref04_less L [di] _ _ _ ((HI.out.alloc _).alloc _) (IntsAt.lit_at _ [di] (by simp [maxLen]) (by simp)) (by rw [HN.out]; omega)).mono ?_
                  rintro r w2 ⟨⟨v2, rfl, g2⟩, hb2⟩
                  have H2 := Lib.hid g2
                  have hbel2 : Below w.heap.size w w2 := bstep2 hbel (Nat.le_refl _) hb2
                  clear g2 hb2
                  go_wp2
                  exact ⟨⟨j + 1, hlt, by go_num, ⟨1, lessL L [di], true, rfl, H2.out, by have := lessL_len L [di]; rw [HN.out] at this; omega, HE.out, .inr ⟨rfl, rfl⟩⟩, hbel2⟩, by simp [intOf]; omega⟩
              | false =>
                cases h5 : (dk == 5) with
                | true =>
                  obtain rfl : dk = 5 := by simpa using h5
                  clear h1 h2 h3 h4 h5
                  have hfive := two_five hlt HS.out HTW.out
                  rw [HN.out] at hfive
                  have HE := Lib.hid hfive
                  clear hfive
                  have wl : IntKind.i64.wrap ((l.length : Int) - 1) = (l.length : Int) - 1 := IntWalk.i64_in _ (by omega)
                  cases hdi : (di == 0) with
                  | true =>
                    cases hjl : ((j : Int) == (l.length : Int) - 1) with
                    | true =>
                      have HE' := Lib.hid (show ((n : Int) == 0) = twoB l by rw [← HE.out, hdi, hjl, Bool.eq_iff_iff]; simp)
                      go_wp2
                      go_ret
                      exact ⟨ret_bool HE'.out, hbd _⟩
                    | false =>
                      have HE' := Lib.hid (show false = twoB l by rw [← HE.out, hdi, hjl]; rfl)
                      go_wp2
                      go_ret
                      exact ⟨ret_bool HE'.out, hbd _⟩
                  | false =>
                    have HE' := Lib.hid (show false = twoB l by rw [← HE.out, hdi]; rfl)
                    go_wp2
                    go_ret
                    exact ⟨ret_bool HE'.out, hbd _⟩
                | false =>
                  have HE := Lib.hid (two_none HS.out HTW.out (may_other h1 h2 h3 h4 h5))
                  go_wp2
                  go_ret
                  exact ⟨ret_bool HE.out, hbd _⟩
    · obtain rfl : j = l.length := by omega
      have HF := Lib.hid (show false = twoB l by rw [← HTW.out, List.drop_length]; rfl)
      go_wp2
      go_ret
      exact ⟨ret_bool HF.out, hbel⟩

end Go.Proofs.Ytacmigimkdiagaa
