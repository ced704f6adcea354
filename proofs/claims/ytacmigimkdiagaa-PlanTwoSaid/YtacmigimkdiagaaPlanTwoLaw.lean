/- The walk of law 18's PlanTwo. -/
import Derived.Test.YtacmigimkdiagaaPlanPlain
import Derived.Test.YtacmigimkdiagaaPlanLives
namespace Go.Proofs.Ytacmigimkdiagaa
open Go.RowKit
set_option linter.unusedVariables false
set_option linter.unusedSimpArgs false

set_option maxHeartbeats 1000000 in
theorem plan_two_law (l : List Int) (v : Value) (looks : Bool) (w : World) (hi : IntsAt w v l) :
    Calls Try.prog 5 #[v, .bool looks] w fun e w' => e = .returned (.bool true) ∧ Below w.heap.size w w' := by
  obtain ⟨a, ca, rfl, hl1, hl2, _⟩ := id hi
  unfold maxLen at hl2
  by_cases hlen : 200 < l.length
  · go_enter Try.func5, Try.ntmps5
    go_wp2_with fail
    refine (plan_lives _).mono ?_
    rintro e w1 ⟨rfl, hb1⟩
    go_wp2
    go_ret
    exact ⟨rfl, hb1⟩
  have q := hi
  clear hi
  go_enter Try.func5, Try.ntmps5
  go_wp2_with fail
  refine (ref04_from l _ _ q (by omega)).mono ?_
  rintro e w1 ⟨⟨v1, rfl, q1⟩, hb1⟩
  have hRl := fromL_len l
  have hR := fromL_rise l
  obtain ⟨R, hRR⟩ : ∃ R, fromL l = R := ⟨_, rfl⟩
  rw [hRR] at q1 hRl hR
  have HR := Lib.hid hR
  clear q hRR hR
  obtain ⟨n, hn⟩ : ∃ n, R.length = n := ⟨_, rfl⟩
  obtain ⟨a1, c1, rfl, hn1, hn2, _⟩ := id q1
  rw [hn] at q1 hn1 hRl ⊢
  have HN := Lib.hid hn
  clear hn
  unfold maxLen at hn2
  have Q1 := Lib.hid q1
  clear q1
  have hbel1 : Below w.heap.size w w1 := hb1
  clear hb1
  go_wp2_with fail
  refine (plan_make R _ looks _ Q1.out (by rw [HN.out]; omega)).mono ?_
  rintro e w2 ⟨⟨v2, rfl, p2⟩, hb2⟩
  have hPL := plan_len HR.out looks (by rw [HN.out]; omega)
  have hPl := plan_len_le R looks
  rw [HN.out] at hPL hPl
  have hPT := plan_is_two HR.out looks
  have hPH := plan_hold HR.out looks
  have hPD : ∀ (k : Nat) (d : Int × Int), (planL R looks)[k]? = some d → d.1 = 3 → holdsL ((planL R looks).take k) = R := fun _ _ h1 h2 => plan_done HR.out h1 h2
  obtain ⟨p, hp⟩ : ∃ p, planL R looks = p := ⟨_, rfl⟩
  rw [hp] at p2 hPL hPl hPT hPH hPD
  clear hp
  obtain ⟨m, hm⟩ : ∃ m, p.length = m := ⟨_, rfl⟩
  obtain ⟨a2, c2, rfl, hm1, hm2, _⟩ := id p2
  rw [hm] at p2 hm1 hPL hPl ⊢
  have HM := Lib.hid hm
  have HPL := Lib.hid hPL
  have HPT := Lib.hid hPT
  have HPH := Lib.hid hPH
  have HPD := Lib.hid hPD
  clear hm hPL hPT hPH hPD
  unfold maxLen at hm2
  have P2 := Lib.hid p2
  have Q2 := Lib.hid (Q1.out.below hb2)
  have hbel2 := bstep hbel1 (Nat.le_refl _) hb2
  clear p2 hb2 hbel1 Q1
  go_wp2_with fail
  refine (plan_lives _).mono ?_
  rintro e w3 ⟨rfl, hb3⟩
  have hbel3 := bstep hbel2 (Nat.le_refl _) hb3
  have P3 := Lib.hid (PlanAt.below P2.out hb3)
  have Q3 := Lib.hid (Q2.out.below hb3)
  clear hb3 hbel2 P2 Q2
  go_wp2_with fail
  refine (plan_two p _ _ P3.out (by rw [HM.out]; omega)).mono ?_
  rintro e w4 ⟨rfl, hb4⟩
  rw [HPT.out]
  have hbel4 := bstep hbel3 (Nat.le_refl _) hb4
  have P4 := Lib.hid (PlanAt.below P3.out hb4)
  have Q4 := Lib.hid (Q3.out.below hb4)
  clear hb4 hbel3 P3 Q3
  go_wp2_with fail
  refine (plan_steps n looks _).mono ?_
  rintro e w5 ⟨rfl, rfl⟩
  rw [← HPL.out]
  go_wp2
  go_loopw [7] (fun i wr => ∃ j : Nat, j ≤ m ∧ i = .int .i64 j ∧ Below w5.heap.size w5 wr) (fun i _ => m - (intOf i).toNat)
  case atStart => exact ⟨0, Nat.zero_le _, rfl, Below.refl _ _⟩
  case round =>
    obtain ⟨j, hj, rfl, hbel⟩ := hrel
    have PR := Lib.hid (PlanAt.below P4.out hbel)
    have QR := Lib.hid (Q4.out.below hbel)
    by_cases hlt : j < m
    · obtain ⟨b1, o1, d, rfl, hb1, hkd, d1, d2⟩ := PlanAt.get2 PR.out (k := j) (by rw [HM.out]; exact hlt)
      have HKD := Lib.hid hkd
      obtain ⟨dk, di⟩ := d
      simp only at d1 d2
      clear hkd
      cases h3 : (dk == 3) with
      | true =>
        have HH := Lib.hid (HPD.out _ _ HKD.out (by simpa using h3))
        go_wp2_with fail
        refine (plan_holds p _ j _ PR.out (by rw [HM.out]; omega)).mono ?_
        rintro r w6 ⟨⟨v6, rfl, q6⟩, hb6⟩
        rw [Int.toNat_natCast, HH.out] at q6
        have Q6 := Lib.hid q6
        have QR6 := Lib.hid (QR.out.below hb6)
        have hbel6 := bstep hbel (Nat.le_refl _) hb6
        clear q6 hb6
        go_wp2_with fail
        refine (ref03_same R R _ _ _ Q6.out QR6.out).mono ?_
        rintro r w7 ⟨rfl, hb7⟩
        have hbel7 := bstep hbel6 (Nat.le_refl _) hb7
        clear hb7
        simp only [decide_true]
        go_wp2
        exact ⟨⟨j + 1, hlt, by go_num, hbel7⟩, by simp [intOf]; omega⟩
      | false =>
        go_wp2
        exact ⟨⟨j + 1, hlt, by go_num, hbel⟩, by simp [intOf]; omega⟩
    · obtain rfl : j = m := by omega
      go_wp2_with fail
      refine (plan_holds p _ j _ PR.out (by rw [HM.out]; omega)).mono ?_
      rintro r w6 ⟨⟨v6, rfl, q6⟩, hb6⟩
      rw [Int.toNat_natCast, List.take_of_length_le (by rw [HM.out]; exact Nat.le_refl _), HPH.out] at q6
      obtain ⟨a6, c6, rfl, _⟩ := q6
      have hbel6 := bstep hbel4 (Nat.le_refl _) (bstep hbel (Nat.le_refl _) hb6)
      clear hb6
      go_wp2
      go_ret
      exact ⟨rfl, hbel6⟩

end Go.Proofs.Ytacmigimkdiagaa
