/- The walk of law 14: OwnerBack: it returns true, and writes nothing that was there. -/
import Derived.Test.YtdpinfigjeafpaaOwnLives
namespace Go.Proofs.Ytdpinfigjeafpaa
open Go.RowKit
set_option linter.unusedVariables false
set_option linter.unusedSimpArgs false

theorem getD_rep0 (N k : Nat) : (List.replicate N (0 : Int)).getD k 0 = 0 := by
  rw [List.getD_eq_getElem?_getD, List.getElem?_replicate]
  split <;> rfl
theorem getD_set_other (l : List Int) (k j : Nat) (x : Int) (h : k ≠ j) : (l.set k x).getD j 0 = l.getD j 0 := by
  rw [List.getD_eq_getElem?_getD, List.getD_eq_getElem?_getD, List.getElem?_set_ne h]

set_option maxHeartbeats 4000000 in
set_option maxRecDepth 100000 in
theorem owner_back_law (n : Int) (l : List Int) (u : Value) (ids : List Int) (v : Value) (who : Int) (w : World) (hl : IntsAt w u l) (hi : IntsAt w v ids) :
    Calls Try.prog 8 #[.int .i64 n, u, v, .int .i64 who] w fun e w' => e = .returned (.bool true) ∧ Below w.heap.size w w' := by
  obtain ⟨a, ca, rfl, _⟩ := id hl
  obtain ⟨b, cb, rfl, _⟩ := id hi
  have hl2 : l.length ≤ 9223372036854775807 := by obtain ⟨_, _, h, h1, h2, _⟩ := hl; unfold maxLen at h2; omega
  have hm2 : ids.length ≤ 9223372036854775807 := by obtain ⟨_, _, h, h1, h2, _⟩ := hi; unfold maxLen at h2; omega
  by_cases hg1 : 1000 < n
  · go_enter Try.func8, Try.ntmps8
    go_wp2_with fail
    refine (own_lives _).mono ?_
    rintro e w1 ⟨rfl, hb1⟩
    go_wp2
    go_ret
    exact ⟨rfl, hb1⟩
  by_cases hg2 : 1000 < l.length
  · go_enter Try.func8, Try.ntmps8
    go_wp2_with fail
    refine (own_lives _).mono ?_
    rintro e w1 ⟨rfl, hb1⟩
    go_wp2
    go_ret
    exact ⟨rfl, hb1⟩
  by_cases hg3 : 1000 < ids.length
  · go_enter Try.func8, Try.ntmps8
    go_wp2_with fail
    refine (own_lives _).mono ?_
    rintro e w1 ⟨rfl, hb1⟩
    go_wp2
    go_ret
    exact ⟨rfl, hb1⟩
  have ql := hl
  have qi := hi
  have HQL := Lib.hid hl
  clear hl hi
  go_enter Try.func8, Try.ntmps8
  go_wp2_with fail
  refine (owner_new n _ (by omega)).mono ?_
  rintro e w1 ⟨⟨v1, rfl, hown⟩, hb1⟩
  have hbel1 : Below w.heap.size w w1 := hb1
  replace ql := ql.below hb1
  replace qi := qi.below hb1
  clear hb1
  have hs1 := OwnInts.shape hown
  obtain ⟨N, hN⟩ : ∃ N, n.toNat = N := ⟨_, rfl⟩
  rw [hN] at hown hs1
  have hNn : (n < 0 ∧ N = 0) ∨ (0 ≤ n ∧ n = (N : Int)) := by omega
  clear hN
  rw [List.length_replicate] at hs1
  have hg1' : ∀ g cap, v1 = .slice (some ⟨g, 0, none⟩) N cap → g < w1.heap.size := by
    intro g cap e
    rcases hs1 with ⟨e2, _⟩ | ⟨g', cap', e2, h1, h2⟩
    · rw [e] at e2; cases e2
    · rw [e] at e2; simp only [Value.slice.injEq, Option.some.injEq, Addr.mk.injEq] at e2; omega
  have hvs : ∃ av cav, v1 = .slice av N cav := by obtain ⟨a', c', h', _⟩ := hown.ints; exact ⟨a', c', by rw [h', List.length_replicate]⟩
  obtain ⟨av, cav, rfl⟩ := hvs
  go_wp2_with fail
  refine (own_lives _).mono ?_
  rintro e w2 ⟨rfl, hb2⟩
  have hbel2 := bstep hbel1 (Nat.le_refl _) hb2
  replace ql := ql.below hb2
  replace qi := qi.below hb2
  replace hown := hown.below hb2
  replace hg1' : ∀ g cap, Value.slice av N cav = .slice (some ⟨g, 0, none⟩) N cap → g < w2.heap.size := fun g cap e => Nat.lt_of_lt_of_le (hg1' g cap e) hb2.size
  have HG1 := Lib.hid hg1'
  clear hg1' hs1
  clear hb2 hbel1
  rcases hNn with ⟨hn1, hn2⟩ | ⟨hn1, hn2⟩
  · subst hn2
    go_wp2_with fail
    refine (ref04_from_ge ids _ _ qi (by omega)).mono ?_
    rintro e w3 ⟨⟨v3, rfl, qs, hge⟩, hb3⟩
    have hbel3 := bstep hbel2 (Nat.le_refl _) hb3
    replace ql := ql.below hb3
    replace hown := hown.below hb3
    clear hb3 hbel2
    obtain ⟨aS, cS, rfl, hs1, hs2, _⟩ := id qs
    unfold maxLen at hs2
    clear qi
    have HGE := Lib.hid hge
    clear hge
    have hN1000 : 0 ≤ 1000 := by omega
    go_wp2
    go_loopw [11] (fun i wr => ∃ k : Nat, k ≤ l.length ∧ i = .int .i64 k ∧ Hid (IntsAt wr (.slice aS (fromL ids).length cS) (fromL ids)) ∧ Hid (∃ O : List Int, O.length = 0 ∧ (∀ x ∈ fromL ids, 0 ≤ x → x < (O.length : Int) → O.getD x.toNat 0 = 0) ∧ OwnInts wr w.heap.size (.slice av 0 cav) O) ∧ Below w.heap.size w wr) (fun i _ => l.length - (intOf i).toNat)
    case atStart => exact ⟨0, Nat.zero_le _, rfl, qs, ⟨List.replicate 0 0, List.length_replicate, fun x _ _ h => getD_rep0 _ _, hown⟩, hbel3⟩
    case round =>
      obtain ⟨k, hk, rfl, QS, HO, hbel4⟩ := hrel
      clear qs hown ql hbel3
      by_cases hlt : k < l.length
      · by_cases hltN : k < 0
        · exact absurd hltN (by omega)
        · obtain ⟨O, hO1, hO2, hO3⟩ := id HO.out
          have HZ := Lib.hid hO2
          have qo := hO3.ints
          have qs := QS.out
          clear hO2 hO3 HO QS
          obtain ⟨R, hR⟩ : ∃ R, takeR O (fromL ids) who = R := ⟨_, rfl⟩
          obtain ⟨T, r2, r3⟩ := R
          have hbl := back_law (O := O) (s := fromL ids) (who := who) HZ.out
          rw [hR] at hbl
          obtain ⟨hbl1, hbl2⟩ := hbl
          have HT := Lib.hid hR
          have HB1 := Lib.hid hbl1
          have HB2 := Lib.hid hbl2
          clear hR hbl1 hbl2
          go_wp2_with fail
          refine (owner_take O (fromL ids) _ _ who _ qo qs (by omega)).mono ?_
          rintro e w5 ⟨⟨v6, rfl, q6⟩, hb5⟩
          have hbel5 := bstep hbel4 (Nat.le_refl _) hb5
          replace qo := qo.below hb5
          replace qs := qs.below hb5
          clear hb5 hbel4
          simp only [HT.out] at q6 ⊢
          by_cases hz3 : r3 = 0
          · subst hz3
            obtain ⟨T', e1, e2, e3, e4⟩ := HB2.out rfl
            simp only [Prod.mk.injEq] at e1
            obtain ⟨rfl, rfl, _⟩ := e1
            have HL := Lib.hid e3
            have HG := Lib.hid e4
            clear e3 e4 HB1 HB2
            go_wp2_with fail
            refine (owner_lacks T (fromL ids) _ _ who _ q6 qs).mono ?_
            rintro e w' ⟨rfl, rfl⟩
            rw [HL.out]
            go_wp2_with fail
            refine (owner_give T (fromL ids) _ _ who _ q6 qs (by omega)).mono ?_
            rintro e w6 ⟨⟨v7, rfl, q7⟩, hb6⟩
            have hbel6 := bstep hbel5 (Nat.le_refl _) hb6
            replace qo := qo.below hb6
            replace qs := qs.below hb6
            replace q6 := q6.below hb6
            clear hb6 hbel5
            simp only [HG.out] at q7 ⊢
            go_wp2_with fail
            refine (ref03_same O O _ _ _ q7 qo).mono ?_
            rintro e w7 ⟨rfl, hb7⟩
            have hbel7 := bstep hbel6 (Nat.le_refl _) hb7
            replace qo := qo.below hb7
            replace q7 := q7.below hb7
            clear hb7 hbel6
            simp only [decide_true]
            go_wp2_with fail
            go_ret
            exact ⟨rfl, hbel7⟩
          · have hd1 : (r3 != 0) = true := by simpa using hz3
            have hd2 : (r3 != 140) = true := by simpa using HB1.out
            clear hz3 HB1 HB2
            go_wp2
            go_ret
            exact ⟨rfl, hbel5⟩
      · obtain ⟨O, hO1, hO2, hO3⟩ := id HO.out
        have HZ := Lib.hid hO2
        have qo := hO3.ints
        have qs := QS.out
        clear hO2 hO3 HO QS
        obtain ⟨R, hR⟩ : ∃ R, takeR O (fromL ids) who = R := ⟨_, rfl⟩
        obtain ⟨T, r2, r3⟩ := R
        have hbl := back_law (O := O) (s := fromL ids) (who := who) HZ.out
        rw [hR] at hbl
        obtain ⟨hbl1, hbl2⟩ := hbl
        have HT := Lib.hid hR
        have HB1 := Lib.hid hbl1
        have HB2 := Lib.hid hbl2
        clear hR hbl1 hbl2
        go_wp2_with fail
        refine (owner_take O (fromL ids) _ _ who _ qo qs (by omega)).mono ?_
        rintro e w5 ⟨⟨v6, rfl, q6⟩, hb5⟩
        have hbel5 := bstep hbel4 (Nat.le_refl _) hb5
        replace qo := qo.below hb5
        replace qs := qs.below hb5
        clear hb5 hbel4
        simp only [HT.out] at q6 ⊢
        by_cases hz3 : r3 = 0
        · subst hz3
          obtain ⟨T', e1, e2, e3, e4⟩ := HB2.out rfl
          simp only [Prod.mk.injEq] at e1
          obtain ⟨rfl, rfl, _⟩ := e1
          have HL := Lib.hid e3
          have HG := Lib.hid e4
          clear e3 e4 HB1 HB2
          go_wp2_with fail
          refine (owner_lacks T (fromL ids) _ _ who _ q6 qs).mono ?_
          rintro e w' ⟨rfl, rfl⟩
          rw [HL.out]
          go_wp2_with fail
          refine (owner_give T (fromL ids) _ _ who _ q6 qs (by omega)).mono ?_
          rintro e w6 ⟨⟨v7, rfl, q7⟩, hb6⟩
          have hbel6 := bstep hbel5 (Nat.le_refl _) hb6
          replace qo := qo.below hb6
          replace qs := qs.below hb6
          replace q6 := q6.below hb6
          clear hb6 hbel5
          simp only [HG.out] at q7 ⊢
          go_wp2_with fail
          refine (ref03_same O O _ _ _ q7 qo).mono ?_
          rintro e w7 ⟨rfl, hb7⟩
          have hbel7 := bstep hbel6 (Nat.le_refl _) hb7
          replace qo := qo.below hb7
          replace q7 := q7.below hb7
          clear hb7 hbel6
          simp only [decide_true]
          go_wp2_with fail
          go_ret
          exact ⟨rfl, hbel7⟩
        · have hd1 : (r3 != 0) = true := by simpa using hz3
          have hd2 : (r3 != 140) = true := by simpa using HB1.out
          clear hz3 HB1 HB2
          go_wp2
          go_ret
          exact ⟨rfl, hbel5⟩

  · subst hn2
    go_wp2_with fail
    refine (ref04_from_ge ids _ _ qi (by omega)).mono ?_
    rintro e w3 ⟨⟨v3, rfl, qs, hge⟩, hb3⟩
    have hbel3 := bstep hbel2 (Nat.le_refl _) hb3
    replace ql := ql.below hb3
    replace hown := hown.below hb3
    clear hb3 hbel2
    obtain ⟨aS, cS, rfl, hs1, hs2, _⟩ := id qs
    unfold maxLen at hs2
    clear qi
    have HGE := Lib.hid hge
    clear hge
    have hN1000 : N ≤ 1000 := by omega
    go_wp2
    go_loopw [11] (fun i wr => ∃ k : Nat, k ≤ l.length ∧ i = .int .i64 k ∧ Hid (IntsAt wr (.slice aS (fromL ids).length cS) (fromL ids)) ∧ Hid (∃ O : List Int, O.length = N ∧ (∀ x ∈ fromL ids, 0 ≤ x → x < (O.length : Int) → O.getD x.toNat 0 = 0) ∧ OwnInts wr w.heap.size (.slice av N cav) O) ∧ Below w.heap.size w wr) (fun i _ => l.length - (intOf i).toNat)
    case atStart => exact ⟨0, Nat.zero_le _, rfl, qs, ⟨List.replicate N 0, List.length_replicate, fun x _ _ h => getD_rep0 _ _, hown⟩, hbel3⟩
    case round =>
      obtain ⟨k, hk, rfl, QS, HO, hbel4⟩ := hrel
      clear qs hown ql hbel3
      by_cases hlt : k < l.length
      · by_cases hltN : k < N
        · obtain ⟨b1, o1, rfl, hb1, c1⟩ := HQL.out.get hlt
          rw [← hbel4.cell (p := ⟨b1, _, none⟩) hb1] at c1
          obtain ⟨x, hx⟩ : ∃ x, l.getD k 0 = x := ⟨_, rfl⟩
          rw [hx] at c1
          clear hx
          obtain ⟨O, hO1, hO2, hO3⟩ := id HO.out
          have hsh : ∃ g, av = some ⟨g, 0, none⟩ ∧ w.heap.size ≤ g := by
            rcases hO3.shape with ⟨e, e2⟩ | ⟨g, cap, e, hgB, hgs⟩
            · subst e2
              simp at hO1
              omega
            · simp only [Value.slice.injEq] at e
              exact ⟨g, e.1, hgB⟩
          obtain ⟨g, rfl, hgB⟩ := hsh
          subst hO1
          have hg2 := HG1.out g cav rfl
          have hcc := OwnInts.cellAt hO3 (j := k) hltN
          have HPP := Lib.hid (OwnInts.put hO3 k x)
          obtain ⟨hcc1, hcc2⟩ := hcc
          have HO2 := Lib.hid hO2
          clear hO2 hO3
          by_cases hc1 : 0 ≤ x
          · by_cases hc2 : x ≤ 8
            · go_wp2_with fail
              refine (ref04_in (fromL ids) _ _ _ QS.out).mono ?_
              rintro e w' ⟨rfl, rfl⟩
              by_cases hin : (k : Int) ∈ fromL ids
              · simp only [hin, decide_true]
                go_wp2
                exact ⟨⟨k + 1, hlt, by go_num, QS, HO, hbel4⟩, by simp [intOf]; omega⟩
              · simp only [hin, decide_false]
                have HIN := Lib.hid hin
                clear hin
                go_wp2
                refine ⟨⟨k + 1, hlt, by go_num, QS.out.setOther HGE.out hg2, ⟨O.set k x, List.length_set, ?_, ?_⟩, hbel4.setCell hgB _⟩, by simp [intOf]; omega⟩
                · intro y hy hy0 hy1
                  rw [List.length_set] at hy1
                  have hne : k ≠ y.toNat := by
                    intro h
                    apply HIN.out
                    have : (k : Int) = y := by omega
                    rw [this]
                    exact hy
                  rw [getD_set_other _ _ _ _ hne]
                  exact HO2.out y hy hy0 hy1
                · have := HPP.out
                  rw [List.length_set] at this
                  exact this
            · go_wp2
              exact ⟨⟨k + 1, hlt, by go_num, QS, HO, hbel4⟩, by simp [intOf]; omega⟩
          · go_wp2
            exact ⟨⟨k + 1, hlt, by go_num, QS, HO, hbel4⟩, by simp [intOf]; omega⟩
        · obtain ⟨O, hO1, hO2, hO3⟩ := id HO.out
          have HZ := Lib.hid hO2
          have qo := hO3.ints
          have qs := QS.out
          clear hO2 hO3 HO QS
          obtain ⟨R, hR⟩ : ∃ R, takeR O (fromL ids) who = R := ⟨_, rfl⟩
          obtain ⟨T, r2, r3⟩ := R
          have hbl := back_law (O := O) (s := fromL ids) (who := who) HZ.out
          rw [hR] at hbl
          obtain ⟨hbl1, hbl2⟩ := hbl
          have HT := Lib.hid hR
          have HB1 := Lib.hid hbl1
          have HB2 := Lib.hid hbl2
          clear hR hbl1 hbl2
          go_wp2_with fail
          refine (owner_take O (fromL ids) _ _ who _ qo qs (by omega)).mono ?_
          rintro e w5 ⟨⟨v6, rfl, q6⟩, hb5⟩
          have hbel5 := bstep hbel4 (Nat.le_refl _) hb5
          replace qo := qo.below hb5
          replace qs := qs.below hb5
          clear hb5 hbel4
          simp only [HT.out] at q6 ⊢
          by_cases hz3 : r3 = 0
          · subst hz3
            obtain ⟨T', e1, e2, e3, e4⟩ := HB2.out rfl
            simp only [Prod.mk.injEq] at e1
            obtain ⟨rfl, rfl, _⟩ := e1
            have HL := Lib.hid e3
            have HG := Lib.hid e4
            clear e3 e4 HB1 HB2
            go_wp2_with fail
            refine (owner_lacks T (fromL ids) _ _ who _ q6 qs).mono ?_
            rintro e w' ⟨rfl, rfl⟩
            rw [HL.out]
            go_wp2_with fail
            refine (owner_give T (fromL ids) _ _ who _ q6 qs (by omega)).mono ?_
            rintro e w6 ⟨⟨v7, rfl, q7⟩, hb6⟩
            have hbel6 := bstep hbel5 (Nat.le_refl _) hb6
            replace qo := qo.below hb6
            replace qs := qs.below hb6
            replace q6 := q6.below hb6
            clear hb6 hbel5
            simp only [HG.out] at q7 ⊢
            go_wp2_with fail
            refine (ref03_same O O _ _ _ q7 qo).mono ?_
            rintro e w7 ⟨rfl, hb7⟩
            have hbel7 := bstep hbel6 (Nat.le_refl _) hb7
            replace qo := qo.below hb7
            replace q7 := q7.below hb7
            clear hb7 hbel6
            simp only [decide_true]
            go_wp2_with fail
            go_ret
            exact ⟨rfl, hbel7⟩
          · have hd1 : (r3 != 0) = true := by simpa using hz3
            have hd2 : (r3 != 140) = true := by simpa using HB1.out
            clear hz3 HB1 HB2
            go_wp2
            go_ret
            exact ⟨rfl, hbel5⟩
      · obtain ⟨O, hO1, hO2, hO3⟩ := id HO.out
        have HZ := Lib.hid hO2
        have qo := hO3.ints
        have qs := QS.out
        clear hO2 hO3 HO QS
        obtain ⟨R, hR⟩ : ∃ R, takeR O (fromL ids) who = R := ⟨_, rfl⟩
        obtain ⟨T, r2, r3⟩ := R
        have hbl := back_law (O := O) (s := fromL ids) (who := who) HZ.out
        rw [hR] at hbl
        obtain ⟨hbl1, hbl2⟩ := hbl
        have HT := Lib.hid hR
        have HB1 := Lib.hid hbl1
        have HB2 := Lib.hid hbl2
        clear hR hbl1 hbl2
        go_wp2_with fail
        refine (owner_take O (fromL ids) _ _ who _ qo qs (by omega)).mono ?_
        rintro e w5 ⟨⟨v6, rfl, q6⟩, hb5⟩
        have hbel5 := bstep hbel4 (Nat.le_refl _) hb5
        replace qo := qo.below hb5
        replace qs := qs.below hb5
        clear hb5 hbel4
        simp only [HT.out] at q6 ⊢
        by_cases hz3 : r3 = 0
        · subst hz3
          obtain ⟨T', e1, e2, e3, e4⟩ := HB2.out rfl
          simp only [Prod.mk.injEq] at e1
          obtain ⟨rfl, rfl, _⟩ := e1
          have HL := Lib.hid e3
          have HG := Lib.hid e4
          clear e3 e4 HB1 HB2
          go_wp2_with fail
          refine (owner_lacks T (fromL ids) _ _ who _ q6 qs).mono ?_
          rintro e w' ⟨rfl, rfl⟩
          rw [HL.out]
          go_wp2_with fail
          refine (owner_give T (fromL ids) _ _ who _ q6 qs (by omega)).mono ?_
          rintro e w6 ⟨⟨v7, rfl, q7⟩, hb6⟩
          have hbel6 := bstep hbel5 (Nat.le_refl _) hb6
          replace qo := qo.below hb6
          replace qs := qs.below hb6
          replace q6 := q6.below hb6
          clear hb6 hbel5
          simp only [HG.out] at q7 ⊢
          go_wp2_with fail
          refine (ref03_same O O _ _ _ q7 qo).mono ?_
          rintro e w7 ⟨rfl, hb7⟩
          have hbel7 := bstep hbel6 (Nat.le_refl _) hb7
          replace qo := qo.below hb7
          replace q7 := q7.below hb7
          clear hb7 hbel6
          simp only [decide_true]
          go_wp2_with fail
          go_ret
          exact ⟨rfl, hbel7⟩
        · have hd1 : (r3 != 0) = true := by simpa using hz3
          have hd2 : (r3 != 140) = true := by simpa using HB1.out
          clear hz3 HB1 HB2
          go_wp2
          go_ret
          exact ⟨rfl, hbel5⟩


end Go.Proofs.Ytdpinfigjeafpaa
