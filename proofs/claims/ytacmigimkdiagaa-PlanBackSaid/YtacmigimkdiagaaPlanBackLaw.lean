/- The walk of law 18's PlanBack. -/
import Derived.Test.YtacmigimkdiagaaPlanPlain
import Derived.Test.YtacmigimkdiagaaPlanLives
namespace Go.Proofs.Ytacmigimkdiagaa
open Go.RowKit
set_option linter.unusedVariables false
set_option linter.unusedSimpArgs false

theorem plan_empty (w : World) (base : Nat) (hb : base ≤ w.heap.size) : OwnPlan (w.alloc (.cells #[] 36)) base (.slice (some ⟨w.heap.size, 0, none⟩) 0 0) [] := by
  have := World.ownsRow_lit (base := base) (e := 36) (size := 2) w #[] 0 hb (by simp) (by simp)
  show (w.alloc (.cells #[] 36)).ownsRow base 36 2 _ 0 []
  simpa using this

set_option maxHeartbeats 2000000 in
set_option maxRecDepth 100000 in
theorem plan_back_true (l : List Int) (v : Value) (k : Int) (w : World) (hi : IntsAt w v l) :
    Calls Try.prog 6 #[v, .bool true, .int .i64 k] w fun e w' => e = .returned (.bool true) ∧ Below w.heap.size w w' := by
  obtain ⟨a, ca, rfl, hl1, hl2, _⟩ := id hi
  unfold maxLen at hl2
  by_cases hlen : 200 < l.length
  · go_enter Try.func6, Try.ntmps6
    go_wp2_with fail
    refine (plan_lives _).mono ?_
    rintro e w1 ⟨rfl, hb1⟩
    go_wp2
    go_ret
    exact ⟨rfl, hb1⟩
  have q := hi
  clear hi
  go_enter Try.func6, Try.ntmps6
  go_wp2_with fail
  refine (ref04_from l _ _ q (by omega)).mono ?_
  rintro e w1 ⟨⟨v1, rfl, q1⟩, hb1⟩
  have hRl := fromL_len l
  have hR := fromL_rise l
  obtain ⟨R, hRR⟩ : ∃ R, fromL l = R := ⟨_, rfl⟩
  rw [hRR] at q1 hRl hR
  have HR := Lib.hid hR
  clear q hRR hR
  obtain ⟨n, hn⟩ : ∃ n, R.length = n := ⟨_, rfl⟩
  obtain ⟨a1, c1, rfl, hn1, hn2, _⟩ := id q1
  rw [hn] at q1 hn1 hRl ⊢
  have HN := Lib.hid hn
  clear hn
  unfold maxLen at hn2
  have Q1 := Lib.hid q1
  clear q1
  have hbel1 : Below w.heap.size w w1 := hb1
  clear hb1
  by_cases hk0 : k < 0
  · go_wp2_with fail
    refine (plan_lives _).mono ?_
    rintro e w2 ⟨rfl, hb2⟩
    go_wp2
    go_ret
    exact ⟨rfl, bstep hbel1 (Nat.le_refl _) hb2⟩
  by_cases hkn : (n : Int) < k
  · go_wp2_with fail
    refine (plan_lives _).mono ?_
    rintro e w2 ⟨rfl, hb2⟩
    go_wp2
    go_ret
    exact ⟨rfl, bstep hbel1 (Nat.le_refl _) hb2⟩
  obtain ⟨K, rfl⟩ : ∃ K : Nat, k = (K : Int) := ⟨k.toNat, by omega⟩
  have hKn : K ≤ n := by omega
  clear hk0 hkn
  go_wp2_with fail
  obtain ⟨N, hN⟩ : ∃ N : Nat, N = 2 * K := ⟨_, rfl⟩
  rw [show (2 * (K : Int)) = (N : Int) by omega]
  have HNK := Lib.hid hN
  clear hN
  refine (plan_make R _ true _ Q1.out (by rw [HN.out]; omega)).mono ?_
  rintro e w2 ⟨⟨v2, rfl, p2⟩, hb2⟩
  have hNe : (if true = true then 2 else 1) * K = N := by rw [HNK.out]; rfl
  have hPl := plan_len_le R true
  rw [HN.out] at hPl
  have hTK := plan_take HR.out true (k := K) (by rw [HN.out]; exact hKn)
  rw [hNe] at hTK
  have hBH := back_hold HR.out true K
  have hBA := back_all HR.out true K
  have hBF : ∀ (i : Nat) (d : Int × Int), (wayL (R.take K))[i]? = some d → d.1 = 4 → d.2 ∈ holdsL ((locksL (R.take K) true ++ wayL (R.take K)).take ((locksL (R.take K) true).length + i)) := fun _ _ h1 h2 => back_free HR.out true K h1 h2
  have hBL := way_len (R.take K)
  rw [List.length_take, HN.out, Nat.min_eq_left hKn] at hBL
  have hLL := locks_len (R.take K) true
  rw [List.length_take, HN.out, Nat.min_eq_left hKn, hNe] at hLL
  clear hNe
  obtain ⟨p, hp⟩ : ∃ p, planL R true = p := ⟨_, rfl⟩
  rw [hp] at p2 hPl hTK
  clear hp
  obtain ⟨u, hu⟩ : ∃ u, locksL (R.take K) true = u := ⟨_, rfl⟩
  rw [hu] at hTK hBH hBA hBF hLL
  clear hu
  obtain ⟨m, hm⟩ : ∃ m, p.length = m := ⟨_, rfl⟩
  obtain ⟨a2, c2, rfl, hm1, hm2, _⟩ := id p2
  have hNm : N ≤ p.length := by
    have := congrArg List.length hTK
    rw [List.length_take, hLL] at this
    omega
  rw [hm] at p2 hm1 hPl hNm ⊢
  have HM := Lib.hid hm
  have HTK := Lib.hid hTK
  have HBH := Lib.hid hBH
  clear hm hTK hBH
  unfold maxLen at hm2
  have P2 := Lib.hid p2
  have Q2 := Lib.hid (Q1.out.below hb2)
  have hbel2 := bstep hbel1 (Nat.le_refl _) hb2
  clear p2 hb2 hbel1 Q1
  go_wp2_with fail
  refine (plan_back R _ K _ Q2.out (by rw [HN.out]; omega)).mono ?_
  rintro e w3 ⟨⟨v3, rfl, p3⟩, hb3⟩
  rw [back_way HR.out] at p3
  obtain ⟨bk, hbk⟩ : ∃ bk, wayL (R.take K) = bk := ⟨_, rfl⟩
  rw [hbk] at p3 hBA hBF hBL
  clear hbk
  obtain ⟨mb, hmb⟩ : ∃ mb, bk.length = mb := ⟨_, rfl⟩
  obtain ⟨a3, c3, rfl, hmb1, hmb2, _⟩ := id p3
  rw [hmb] at p3 hmb1 hBL ⊢
  have HMB := Lib.hid hmb
  have HBA := Lib.hid hBA
  have HBF := Lib.hid hBF
  have HBL := Lib.hid hBL
  have HLL := Lib.hid hLL
  clear hmb hBA hBF hLL hBL
  unfold maxLen at hmb2
  have B3 := Lib.hid p3
  have P3 := Lib.hid (PlanAt.below P2.out hb3)
  have Q3 := Lib.hid (Q2.out.below hb3)
  have hbel3 := bstep hbel2 (Nat.le_refl _) hb3
  clear p3 hb3 hbel2 P2 Q2
  have wk1 : IntKind.i64.wrap ((K : Int) + 1) = (mb : Int) := by rw [IntWalk.i64_in _ (by omega)]; have := HBL.out; omega
  have hKc : K ≤ c1 := by omega
  have hmbs : mb ≤ 201 := by have := HBL.out; omega
  have hNm2 : ¬ m < N := by omega
  have hNm3 : ¬ (m : Int) < (N : Int) := by omega
  go_wp2_with fail
  go_region_held3 (fun w' => Below w3.heap.size w3 w' ∧ (∀ b o, b < w3.heap.size → w'.cell? ⟨b, o, none⟩ = w3.cell? ⟨b, o, none⟩) ∧ ∀ b o, b < w3.heap.size → w'.frozen? ⟨b, o, none⟩ = w3.frozen? ⟨b, o, none⟩)
    (first | exact Keeps.atDraw _ | exact hB | exact Keeps.new hB _ | exact Keeps.new (by assumption) _)
    ((first
      | (go_at_call 11; refine (plan_lives _).mono ?_; rintro e wa ⟨rfl, hb⟩; have hB := Keeps.call hb (by assumption))
      | (go_at_call 22; refine (plan_holds p _ N _ (PlanAt.below P3.out (Keeps.bel (by assumption))) (by rw [HM.out]; omega)).mono ?_; rintro e wb ⟨⟨vb, rfl, qb⟩, hb⟩; rw [Int.toNat_natCast, HTK.out, HBH.out] at qb; have hB := Keeps.call hb (by assumption))
      | (go_at_call 21; refine (ref03_same (R.take K) (R.take K) _ _ _ (by assumption) (IntsAt.front (Q3.out.below (Keeps.bel (by assumption))) (by rw [HN.out]; exact hKn))).mono ?_; rintro e wc ⟨rfl, hb⟩; simp only [decide_true]; have hB := Keeps.call hb (by assumption))))
  all_goals
    have PW := Lib.hid (PlanAt.below P3.out (Keeps.bel (by assumption)))
    have BW := Lib.hid (PlanAt.below B3.out (Keeps.bel (by assumption)))
    have hbW : Below w3.heap.size w3 _ := Keeps.bel (by assumption)
    have hbelW := bstep hbel3 (Nat.le_refl _) hbW
    have hs3 := hbelW.size
    clear hbW wk1
    have hNc : N ≤ c2 := by omega
    have hN : N ≤ 700 := by omega
    go_wp2_with (at_builtin; refine wpList_append_rows deedRow_len deedRow_one rfl (.tmp 63) (.tmp 66) 25 rfl _ 36 _ 16 Try.underlying25 infoDeed rfl (by decide) (by decide) _ [] rfl (plan_empty _ _ (Nat.le_refl _)) _ u rfl (by rw [← HTK.out]; exact RowsAt.front (RowsAt.alloc PW.out _) N (by rw [HM.out]; exact hNm)) ?_ ?_ ?_)
    · rw [HLL.out]; simp only [List.length_nil]; omega
    · simp
    intro v5 w5 hown5 hg5 hb5
    have HV5 := Lib.hid hown5
    have HB5 := Lib.hid hb5
    have B5 := Lib.hid (PlanAt.below BW.out (((Below.refl _ _).alloc (Nat.le_refl _) _).trans hb5))
    obtain ⟨a5, c5, hv5, _⟩ := OwnRows.rows deedRow_len hown5
    obtain ⟨n5, hv5'⟩ : ∃ n5, v5 = .slice a5 n5 c5 := ⟨_, hv5⟩
    subst hv5'
    clear hown5 hg5 hb5 hv5
    go_wp2_with (at_builtin; refine wpList_append_rows deedRow_len deedRow_one rfl (.tmp 67) (.tmp 68) 25 rfl _ 36 _ 16 Try.underlying25 infoDeed rfl (by decide) (by decide) _ u rfl HV5.out _ bk rfl B5.out ?_ ?_ ?_)
    · rw [HLL.out, HMB.out]; omega
    · exact Nat.le_trans (by simp) HB5.out.size
    intro v6 w6 hown6 hg6 hb6
    have B6 := Lib.hid (PlanAt.below BW.out (((Below.refl _ _).alloc (Nat.le_refl _) _).trans (HB5.out.trans hb6)))
    have A6' := OwnRows.rows deedRow_len hown6
    have hbel6 : Below w.heap.size w w6 := (hbelW.alloc hs3 _).trans ((HB5.out.trans hb6).mono hs3)
    clear hown6 hg6 hb6 HB5 HV5 B5 BW PW
    have hMl : (u ++ bk).length = N + mb := by rw [List.length_append, HLL.out, HMB.out]
    obtain ⟨al, hal⟩ : ∃ al, u ++ bk = al := ⟨_, rfl⟩
    have HBA' := HBA.out
    have HBF' := HBF.out
    rw [hal] at A6' hMl HBA' HBF'
    rw [HLL.out] at HBF'
    obtain ⟨M, hM⟩ : ∃ M, al.length = M := ⟨_, rfl⟩
    obtain ⟨a6, c6, rfl, h61, h62, _⟩ := id A6'
    rw [hM] at A6' h61 hMl ⊢
    have HAL := Lib.hid hM
    have HB1 := Lib.hid HBA'
    have HB2 := Lib.hid HBF'
    have A6 := Lib.hid A6'
    clear hal hM HBA' HBF' A6'
    unfold maxLen at h62
    have HML := Lib.hid hMl
    have hM9 : M ≤ 1000 := by omega
    clear hMl
    go_wp2
    go_loopw [12] (fun i wr => ∃ j : Nat, j ≤ mb ∧ i = .int .i64 j ∧ Below w6.heap.size w6 wr) (fun i _ => mb - (intOf i).toNat)
    case atStart => exact ⟨0, Nat.zero_le _, rfl, Below.refl _ _⟩
    case round =>
      obtain ⟨j, hj, rfl, hbel⟩ := hrel
      have AR := Lib.hid (PlanAt.below A6.out hbel)
      by_cases hlt : j < mb
      · obtain ⟨b1, o1, d, rfl, hb1, hkd, d1, d2⟩ := PlanAt.get2 (PlanAt.below B6.out hbel) (k := j) (by rw [HMB.out]; exact hlt)
        have HKD := Lib.hid hkd
        obtain ⟨dk, di⟩ := d
        simp only at d1 d2
        clear hkd
        cases h4 : (dk == 4) with
        | true =>
          have HH := Lib.hid (HB2.out j _ HKD.out (by simpa using h4))
          obtain ⟨S, hS⟩ : ∃ S : Nat, S = N + j := ⟨_, rfl⟩
          have ws : IntKind.i64.wrap ((N : Int) + (j : Int)) = (S : Int) := by rw [IntWalk.i64_in _ (by omega)]; omega
          have HS := Lib.hid hS
          clear hS
          obtain ⟨HL, hHL⟩ : ∃ HL, holdsL (al.take S) = HL := ⟨_, rfl⟩
          have HHM := Lib.hid (show decide (di ∈ HL) = true by rw [← hHL, HS.out]; simpa using HH.out)
          have HHL := Lib.hid hHL
          clear hHL
          go_wp2_with fail
          go_region_held3 (fun w' => Below wr.heap.size wr w' ∧ (∀ b o, b < wr.heap.size → w'.cell? ⟨b, o, none⟩ = wr.cell? ⟨b, o, none⟩) ∧ ∀ b o, b < wr.heap.size → w'.frozen? ⟨b, o, none⟩ = wr.frozen? ⟨b, o, none⟩)
            (first | exact Keeps.atDraw _ | exact hB | exact Keeps.new hB _ | exact Keeps.new (by assumption) _)
            ((first
              | (go_at_call 22; refine (plan_holds al _ S _ (PlanAt.below AR.out (Keeps.bel (by assumption))) (by rw [HAL.out]; omega)).mono ?_; rintro e wb ⟨⟨vb, rfl, qb⟩, hb⟩; rw [Int.toNat_natCast, HHL.out] at qb; have hB := Keeps.call hb (by assumption))
              | (go_at_call 25; refine (ref04_in HL _ di _ (by assumption)).mono ?_; rintro e wc ⟨rfl, rfl⟩; simp only [HHM.out])))
          all_goals
            have hbW : Below wr.heap.size wr _ := Keeps.bel (by assumption)
            have hbelW := bstep hbel (Nat.le_refl _) hbW
            clear hbW ws
            go_wp2
            exact ⟨⟨j + 1, hlt, by go_num, hbelW⟩, by simp [intOf]; omega⟩
        | false =>
          go_wp2
          refine wp_region_lex (fun w' => Below wr.heap.size wr w' ∧ (∀ b o, b < wr.heap.size → w'.cell? ⟨b, o, none⟩ = wr.cell? ⟨b, o, none⟩) ∧ ∀ b o, b < wr.heap.size → w'.frozen? ⟨b, o, none⟩ = wr.frozen? ⟨b, o, none⟩) (by kernel_rfl) (by kernel_rfl) (Keeps.atDraw _) ?_
          repeat (first
            | (apply Lex.take
               · rfl
               · (intro w' hS; go_simp; exact ⟨rfl, hS⟩)
               simp only [Act.put, List.setIfInBounds_toArray, List.set_cons_zero, List.set_cons_succ])
            | (apply Lex.leave
               · rfl
               simp only [Act.put, List.setIfInBounds_toArray, List.set_cons_zero, List.set_cons_succ]))
          refine Lex.nil ?_
          intro W2 hS
          have hbelW := bstep hbel (Nat.le_refl _) hS.1
          clear hS
          go_wp2
          exact ⟨⟨j + 1, hlt, by go_num, hbelW⟩, by simp [intOf]; omega⟩
      · obtain rfl : j = mb := by omega
        go_wp2_with fail
        refine (plan_holds al _ M _ AR.out (by rw [HAL.out]; omega)).mono ?_
        rintro r w7 ⟨⟨v7, rfl, q7⟩, hb7⟩
        rw [Int.toNat_natCast, List.take_of_length_le (by rw [HAL.out]; exact Nat.le_refl _), HB1.out] at q7
        obtain ⟨a7, c7, rfl, _⟩ := q7
        have hbel7 := bstep hbel6 (Nat.le_refl _) (bstep hbel (Nat.le_refl _) hb7)
        clear hb7
        go_wp2
        go_ret
        exact ⟨rfl, hbel7⟩

set_option maxHeartbeats 2000000 in
set_option maxRecDepth 100000 in
theorem plan_back_false (l : List Int) (v : Value) (k : Int) (w : World) (hi : IntsAt w v l) :
    Calls Try.prog 6 #[v, .bool false, .int .i64 k] w fun e w' => e = .returned (.bool true) ∧ Below w.heap.size w w' := by
  obtain ⟨a, ca, rfl, hl1, hl2, _⟩ := id hi
  unfold maxLen at hl2
  by_cases hlen : 200 < l.length
  · go_enter Try.func6, Try.ntmps6
    go_wp2_with fail
    refine (plan_lives _).mono ?_
    rintro e w1 ⟨rfl, hb1⟩
    go_wp2
    go_ret
    exact ⟨rfl, hb1⟩
  have q := hi
  clear hi
  go_enter Try.func6, Try.ntmps6
  go_wp2_with fail
  refine (ref04_from l _ _ q (by omega)).mono ?_
  rintro e w1 ⟨⟨v1, rfl, q1⟩, hb1⟩
  have hRl := fromL_len l
  have hR := fromL_rise l
  obtain ⟨R, hRR⟩ : ∃ R, fromL l = R := ⟨_, rfl⟩
  rw [hRR] at q1 hRl hR
  have HR := Lib.hid hR
  clear q hRR hR
  obtain ⟨n, hn⟩ : ∃ n, R.length = n := ⟨_, rfl⟩
  obtain ⟨a1, c1, rfl, hn1, hn2, _⟩ := id q1
  rw [hn] at q1 hn1 hRl ⊢
  have HN := Lib.hid hn
  clear hn
  unfold maxLen at hn2
  have Q1 := Lib.hid q1
  clear q1
  have hbel1 : Below w.heap.size w w1 := hb1
  clear hb1
  by_cases hk0 : k < 0
  · go_wp2_with fail
    refine (plan_lives _).mono ?_
    rintro e w2 ⟨rfl, hb2⟩
    go_wp2
    go_ret
    exact ⟨rfl, bstep hbel1 (Nat.le_refl _) hb2⟩
  by_cases hkn : (n : Int) < k
  · go_wp2_with fail
    refine (plan_lives _).mono ?_
    rintro e w2 ⟨rfl, hb2⟩
    go_wp2
    go_ret
    exact ⟨rfl, bstep hbel1 (Nat.le_refl _) hb2⟩
  obtain ⟨K, rfl⟩ : ∃ K : Nat, k = (K : Int) := ⟨k.toNat, by omega⟩
  have hKn : K ≤ n := by omega
  clear hk0 hkn
  go_wp2_with fail
  have hN : K ≤ 2 * K := by omega
  refine (plan_make R _ false _ Q1.out (by rw [HN.out]; omega)).mono ?_
  rintro e w2 ⟨⟨v2, rfl, p2⟩, hb2⟩
  have hNe : (if false = true then 2 else 1) * K = K := by simp
  have hPl := plan_len_le R false
  rw [HN.out] at hPl
  have hTK := plan_take HR.out false (k := K) (by rw [HN.out]; exact hKn)
  rw [hNe] at hTK
  have hBH := back_hold HR.out false K
  have hBA := back_all HR.out false K
  have hBF : ∀ (i : Nat) (d : Int × Int), (wayL (R.take K))[i]? = some d → d.1 = 4 → d.2 ∈ holdsL ((locksL (R.take K) false ++ wayL (R.take K)).take ((locksL (R.take K) false).length + i)) := fun _ _ h1 h2 => back_free HR.out false K h1 h2
  have hBL := way_len (R.take K)
  rw [List.length_take, HN.out, Nat.min_eq_left hKn] at hBL
  have hLL := locks_len (R.take K) false
  rw [List.length_take, HN.out, Nat.min_eq_left hKn, hNe] at hLL
  clear hNe
  obtain ⟨p, hp⟩ : ∃ p, planL R false = p := ⟨_, rfl⟩
  rw [hp] at p2 hPl hTK
  clear hp
  obtain ⟨u, hu⟩ : ∃ u, locksL (R.take K) false = u := ⟨_, rfl⟩
  rw [hu] at hTK hBH hBA hBF hLL
  clear hu
  obtain ⟨m, hm⟩ : ∃ m, p.length = m := ⟨_, rfl⟩
  obtain ⟨a2, c2, rfl, hm1, hm2, _⟩ := id p2
  have hNm : K ≤ p.length := by
    have := congrArg List.length hTK
    rw [List.length_take, hLL] at this
    omega
  rw [hm] at p2 hm1 hPl hNm ⊢
  have HM := Lib.hid hm
  have HTK := Lib.hid hTK
  have HBH := Lib.hid hBH
  clear hm hTK hBH
  unfold maxLen at hm2
  have P2 := Lib.hid p2
  have Q2 := Lib.hid (Q1.out.below hb2)
  have hbel2 := bstep hbel1 (Nat.le_refl _) hb2
  clear p2 hb2 hbel1 Q1
  go_wp2_with fail
  refine (plan_back R _ K _ Q2.out (by rw [HN.out]; omega)).mono ?_
  rintro e w3 ⟨⟨v3, rfl, p3⟩, hb3⟩
  rw [back_way HR.out] at p3
  obtain ⟨bk, hbk⟩ : ∃ bk, wayL (R.take K) = bk := ⟨_, rfl⟩
  rw [hbk] at p3 hBA hBF hBL
  clear hbk
  obtain ⟨mb, hmb⟩ : ∃ mb, bk.length = mb := ⟨_, rfl⟩
  obtain ⟨a3, c3, rfl, hmb1, hmb2, _⟩ := id p3
  rw [hmb] at p3 hmb1 hBL ⊢
  have HMB := Lib.hid hmb
  have HBA := Lib.hid hBA
  have HBF := Lib.hid hBF
  have HBL := Lib.hid hBL
  have HLL := Lib.hid hLL
  clear hmb hBA hBF hLL hBL
  unfold maxLen at hmb2
  have B3 := Lib.hid p3
  have P3 := Lib.hid (PlanAt.below P2.out hb3)
  have Q3 := Lib.hid (Q2.out.below hb3)
  have hbel3 := bstep hbel2 (Nat.le_refl _) hb3
  clear p3 hb3 hbel2 P2 Q2
  have wk1 : IntKind.i64.wrap ((K : Int) + 1) = (mb : Int) := by rw [IntWalk.i64_in _ (by omega)]; have := HBL.out; omega
  have hKc : K ≤ c1 := by omega
  have hmbs : mb ≤ 201 := by have := HBL.out; omega
  have hNm2 : ¬ m < K := by omega
  have hNm3 : ¬ (m : Int) < (K : Int) := by omega
  go_wp2_with fail
  go_region_held3 (fun w' => Below w3.heap.size w3 w' ∧ (∀ b o, b < w3.heap.size → w'.cell? ⟨b, o, none⟩ = w3.cell? ⟨b, o, none⟩) ∧ ∀ b o, b < w3.heap.size → w'.frozen? ⟨b, o, none⟩ = w3.frozen? ⟨b, o, none⟩)
    (first | exact Keeps.atDraw _ | exact hB | exact Keeps.new hB _ | exact Keeps.new (by assumption) _)
    ((first
      | (go_at_call 11; refine (plan_lives _).mono ?_; rintro e wa ⟨rfl, hb⟩; have hB := Keeps.call hb (by assumption))
      | (go_at_call 22; refine (plan_holds p _ K _ (PlanAt.below P3.out (Keeps.bel (by assumption))) (by rw [HM.out]; omega)).mono ?_; rintro e wb ⟨⟨vb, rfl, qb⟩, hb⟩; rw [Int.toNat_natCast, HTK.out, HBH.out] at qb; have hB := Keeps.call hb (by assumption))
      | (go_at_call 21; refine (ref03_same (R.take K) (R.take K) _ _ _ (by assumption) (IntsAt.front (Q3.out.below (Keeps.bel (by assumption))) (by rw [HN.out]; exact hKn))).mono ?_; rintro e wc ⟨rfl, hb⟩; simp only [decide_true]; have hB := Keeps.call hb (by assumption))))
  all_goals
    have PW := Lib.hid (PlanAt.below P3.out (Keeps.bel (by assumption)))
    have BW := Lib.hid (PlanAt.below B3.out (Keeps.bel (by assumption)))
    have hbW : Below w3.heap.size w3 _ := Keeps.bel (by assumption)
    have hbelW := bstep hbel3 (Nat.le_refl _) hbW
    have hs3 := hbelW.size
    clear hbW wk1
    have hNc : K ≤ c2 := by omega
    have hK : K ≤ 700 := by omega
    go_wp2_with (at_builtin; refine wpList_append_rows deedRow_len deedRow_one rfl (.tmp 63) (.tmp 66) 25 rfl _ 36 _ 16 Try.underlying25 infoDeed rfl (by decide) (by decide) _ [] rfl (plan_empty _ _ (Nat.le_refl _)) _ u rfl (by rw [← HTK.out]; exact RowsAt.front (RowsAt.alloc PW.out _) K (by rw [HM.out]; exact hNm)) ?_ ?_ ?_)
    · rw [HLL.out]; simp only [List.length_nil]; omega
    · simp
    intro v5 w5 hown5 hg5 hb5
    have HV5 := Lib.hid hown5
    have HB5 := Lib.hid hb5
    have B5 := Lib.hid (PlanAt.below BW.out (((Below.refl _ _).alloc (Nat.le_refl _) _).trans hb5))
    obtain ⟨a5, c5, hv5, _⟩ := OwnRows.rows deedRow_len hown5
    obtain ⟨n5, hv5'⟩ : ∃ n5, v5 = .slice a5 n5 c5 := ⟨_, hv5⟩
    subst hv5'
    clear hown5 hg5 hb5 hv5
    go_wp2_with (at_builtin; refine wpList_append_rows deedRow_len deedRow_one rfl (.tmp 67) (.tmp 68) 25 rfl _ 36 _ 16 Try.underlying25 infoDeed rfl (by decide) (by decide) _ u rfl HV5.out _ bk rfl B5.out ?_ ?_ ?_)
    · rw [HLL.out, HMB.out]; omega
    · exact Nat.le_trans (by simp) HB5.out.size
    intro v6 w6 hown6 hg6 hb6
    have B6 := Lib.hid (PlanAt.below BW.out (((Below.refl _ _).alloc (Nat.le_refl _) _).trans (HB5.out.trans hb6)))
    have A6' := OwnRows.rows deedRow_len hown6
    have hbel6 : Below w.heap.size w w6 := (hbelW.alloc hs3 _).trans ((HB5.out.trans hb6).mono hs3)
    clear hown6 hg6 hb6 HB5 HV5 B5 BW PW
    have hMl : (u ++ bk).length = K + mb := by rw [List.length_append, HLL.out, HMB.out]
    obtain ⟨al, hal⟩ : ∃ al, u ++ bk = al := ⟨_, rfl⟩
    have HBA' := HBA.out
    have HBF' := HBF.out
    rw [hal] at A6' hMl HBA' HBF'
    rw [HLL.out] at HBF'
    obtain ⟨M, hM⟩ : ∃ M, al.length = M := ⟨_, rfl⟩
    obtain ⟨a6, c6, rfl, h61, h62, _⟩ := id A6'
    rw [hM] at A6' h61 hMl ⊢
    have HAL := Lib.hid hM
    have HB1 := Lib.hid HBA'
    have HB2 := Lib.hid HBF'
    have A6 := Lib.hid A6'
    clear hal hM HBA' HBF' A6'
    unfold maxLen at h62
    have HML := Lib.hid hMl
    have hM9 : M ≤ 1000 := by omega
    clear hMl
    go_wp2
    go_loopw [12] (fun i wr => ∃ j : Nat, j ≤ mb ∧ i = .int .i64 j ∧ Below w6.heap.size w6 wr) (fun i _ => mb - (intOf i).toNat)
    case atStart => exact ⟨0, Nat.zero_le _, rfl, Below.refl _ _⟩
    case round =>
      obtain ⟨j, hj, rfl, hbel⟩ := hrel
      have AR := Lib.hid (PlanAt.below A6.out hbel)
      by_cases hlt : j < mb
      · obtain ⟨b1, o1, d, rfl, hb1, hkd, d1, d2⟩ := PlanAt.get2 (PlanAt.below B6.out hbel) (k := j) (by rw [HMB.out]; exact hlt)
        have HKD := Lib.hid hkd
        obtain ⟨dk, di⟩ := d
        simp only at d1 d2
        clear hkd
        cases h4 : (dk == 4) with
        | true =>
          have HH := Lib.hid (HB2.out j _ HKD.out (by simpa using h4))
          obtain ⟨S, hS⟩ : ∃ S : Nat, S = K + j := ⟨_, rfl⟩
          have ws : IntKind.i64.wrap ((K : Int) + (j : Int)) = (S : Int) := by rw [IntWalk.i64_in _ (by omega)]; omega
          have HS := Lib.hid hS
          clear hS
          obtain ⟨HL, hHL⟩ : ∃ HL, holdsL (al.take S) = HL := ⟨_, rfl⟩
          have HHM := Lib.hid (show decide (di ∈ HL) = true by rw [← hHL, HS.out]; simpa using HH.out)
          have HHL := Lib.hid hHL
          clear hHL
          go_wp2_with fail
          go_region_held3 (fun w' => Below wr.heap.size wr w' ∧ (∀ b o, b < wr.heap.size → w'.cell? ⟨b, o, none⟩ = wr.cell? ⟨b, o, none⟩) ∧ ∀ b o, b < wr.heap.size → w'.frozen? ⟨b, o, none⟩ = wr.frozen? ⟨b, o, none⟩)
            (first | exact Keeps.atDraw _ | exact hB | exact Keeps.new hB _ | exact Keeps.new (by assumption) _)
            ((first
              | (go_at_call 22; refine (plan_holds al _ S _ (PlanAt.below AR.out (Keeps.bel (by assumption))) (by rw [HAL.out]; omega)).mono ?_; rintro e wb ⟨⟨vb, rfl, qb⟩, hb⟩; rw [Int.toNat_natCast, HHL.out] at qb; have hB := Keeps.call hb (by assumption))
              | (go_at_call 25; refine (ref04_in HL _ di _ (by assumption)).mono ?_; rintro e wc ⟨rfl, rfl⟩; simp only [HHM.out])))
          all_goals
            have hbW : Below wr.heap.size wr _ := Keeps.bel (by assumption)
            have hbelW := bstep hbel (Nat.le_refl _) hbW
            clear hbW ws
            go_wp2
            exact ⟨⟨j + 1, hlt, by go_num, hbelW⟩, by simp [intOf]; omega⟩
        | false =>
          go_wp2
          refine wp_region_lex (fun w' => Below wr.heap.size wr w' ∧ (∀ b o, b < wr.heap.size → w'.cell? ⟨b, o, none⟩ = wr.cell? ⟨b, o, none⟩) ∧ ∀ b o, b < wr.heap.size → w'.frozen? ⟨b, o, none⟩ = wr.frozen? ⟨b, o, none⟩) (by kernel_rfl) (by kernel_rfl) (Keeps.atDraw _) ?_
          repeat (first
            | (apply Lex.take
               · rfl
               · (intro w' hS; go_simp; exact ⟨rfl, hS⟩)
               simp only [Act.put, List.setIfInBounds_toArray, List.set_cons_zero, List.set_cons_succ])
            | (apply Lex.leave
               · rfl
               simp only [Act.put, List.setIfInBounds_toArray, List.set_cons_zero, List.set_cons_succ]))
          refine Lex.nil ?_
          intro W2 hS
          have hbelW := bstep hbel (Nat.le_refl _) hS.1
          clear hS
          go_wp2
          exact ⟨⟨j + 1, hlt, by go_num, hbelW⟩, by simp [intOf]; omega⟩
      · obtain rfl : j = mb := by omega
        go_wp2_with fail
        refine (plan_holds al _ M _ AR.out (by rw [HAL.out]; omega)).mono ?_
        rintro r w7 ⟨⟨v7, rfl, q7⟩, hb7⟩
        rw [Int.toNat_natCast, List.take_of_length_le (by rw [HAL.out]; exact Nat.le_refl _), HB1.out] at q7
        obtain ⟨a7, c7, rfl, _⟩ := q7
        have hbel7 := bstep hbel6 (Nat.le_refl _) (bstep hbel (Nat.le_refl _) hb7)
        clear hb7
        go_wp2
        go_ret
        exact ⟨rfl, hbel7⟩

theorem plan_back_law (l : List Int) (v : Value) (looks : Bool) (k : Int) (w : World) (hi : IntsAt w v l) :
    Calls Try.prog 6 #[v, .bool looks, .int .i64 k] w fun e w' => e = .returned (.bool true) ∧ Below w.heap.size w w' := by
  cases looks
  · exact plan_back_false l v k w hi
  · exact plan_back_true l v k w hi

end Go.Proofs.Ytacmigimkdiagaa
