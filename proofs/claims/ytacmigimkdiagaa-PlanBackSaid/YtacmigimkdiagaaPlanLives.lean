/- What must come of every program: law 18's lives. -/
import Derived.Test.YtacmigimkdiagaaPlanTwoRef
namespace Go.Proofs.Ytacmigimkdiagaa
open Go.RowKit
set_option linter.unusedVariables false
set_option linter.unusedSimpArgs false

theorem PlanAt.below {w w' : World} {v : Value} {l : List (Int × Int)} (h : PlanAt w v l) (hb : Below w.heap.size w w') : PlanAt w' v l := RowsAt.below h hb
theorem lives_plan : planL [2, 5] true = [(1, 2), (2, 2), (1, 5), (2, 5), (3, 0), (4, 5), (4, 2), (5, 0)] := by decide
theorem lives_back : wayB [2, 5] 1 = [(4, 2), (5, 0)] := by decide
theorem lives_two : twoB (planL [2, 5] true) = true := by decide
theorem lives_two' : twoB (wayB [2, 5] 1) = false := by decide
theorem lives_holds : holdsL ((planL [2, 5] true).take 6) = [2] := by decide

set_option maxHeartbeats 1000000 in
theorem plan_lives (w : World) : Calls Try.prog 11 #[] w fun e w' => e = .returned (.bool true) ∧ Below w.heap.size w w' := by
  go_enter Try.func11, Try.ntmps11
  go_wp2_with fail
  refine (plan_make [2, 5] _ true _ (IntsAt.lit_at _ [2, 5] (by simp [maxLen]) rfl) (by simp)).mono ?_
  rintro e w1 ⟨⟨v1, rfl, p1⟩, hb1⟩
  have hbel1 : Below w.heap.size w w1 := bstep1 (Below.refl _ _) (Nat.le_refl _) hb1
  clear hb1
  go_wp2_with fail
  refine (plan_back [2, 5] _ 1 _ (IntsAt.lit_at _ [2, 5] (by simp [maxLen]) rfl) (by simp)).mono ?_
  rintro e w2 ⟨⟨v2, rfl, p2⟩, hb2⟩
  have hbel2 : Below w.heap.size w w2 := bstep1 hbel1 (Nat.le_refl _) hb2
  replace p1 := p1.below (((Below.refl _ _).alloc (Nat.le_refl _) _).trans (hb2.mono (by simp)))
  clear hb2 hbel1
  have P1 := Lib.hid p1
  have P2 := Lib.hid p2
  obtain ⟨a1, n1, c1, hv1, hn1⟩ : ∃ a n c, v1 = .slice a n c ∧ n = 8 := by
    obtain ⟨a, c, h, _⟩ := p1
    exact ⟨a, _, c, h, rfl⟩
  obtain ⟨a2, n2, c2, hv2, hn2⟩ : ∃ a n c, v2 = .slice a n c ∧ n = 2 := by
    obtain ⟨a, c, h, _⟩ := p2
    exact ⟨a, _, c, h, rfl⟩
  subst hv1 hn1 hv2 hn2
  obtain ⟨b1, o1, d3, rfl, hb1, hk3, x3, y3⟩ := PlanAt.get2 (k := 3) p1 (by decide)
  obtain ⟨b1', o1', d4, he, _, hk4, x4, y4⟩ := PlanAt.get2 (k := 4) p1 (by decide)
  obtain ⟨rfl, rfl⟩ : b1 = b1' ∧ o1 = o1' := by simpa using he
  obtain ⟨b2, o2, d0, rfl, hb2, hk0, x0, y0⟩ := PlanAt.get2 (k := 0) p2 (by decide)
  obtain rfl : (2, 5) = d3 := Option.some.inj hk3
  obtain rfl : (3, 0) = d4 := Option.some.inj hk4
  obtain rfl : (4, 2) = d0 := Option.some.inj hk0
  simp at x3 y3 x4 y4 x0 y0
  clear hk3 hk4 hk0 he p1 p2
  go_wp2_with fail
  refine (plan_steps 2 true _).mono ?_
  rintro e w3 ⟨rfl, rfl⟩
  rw [show stepsN 2 true = 8 from rfl]
  go_wp2_with fail
  refine (plan_two (planL [2, 5] true) _ _ P1.out (by decide)).mono ?_
  rintro e w4 ⟨rfl, hb4⟩
  rw [lives_two]
  have Q1 := Lib.hid (PlanAt.below P1.out hb4)
  have Q2 := Lib.hid (PlanAt.below P2.out hb4)
  have hbel4 := bstep hbel2 (Nat.le_refl _) hb4
  clear hb4 P1 P2 x3 y3 x4 y4 x0 y0 hb1 hb2 hbel2
  go_wp2_with fail
  refine (plan_two (wayB [2, 5] 1) _ _ Q2.out (by decide)).mono ?_
  rintro e w5 ⟨rfl, hb5⟩
  rw [lives_two']
  have R1 := Lib.hid (PlanAt.below Q1.out hb5)
  have hbel5 := bstep hbel4 (Nat.le_refl _) hb5
  clear hb5 Q1 Q2 hbel4
  go_wp2_with fail
  refine (plan_holds (planL [2, 5] true) _ 6 _ R1.out (by decide)).mono ?_
  rintro e w6 ⟨⟨v6, rfl, q6⟩, hb6⟩
  rw [show (6 : Int).toNat = 6 from rfl, lives_holds] at q6
  have Q6 := Lib.hid q6
  have hbel6 := bstep hbel5 (Nat.le_refl _) hb6
  clear hb6 R1 hbel5 q6
  go_wp2_with fail
  refine (ref03_same [2] [2] _ _ _ (Q6.out.alloc _) (IntsAt.lit1 _ 2)).mono ?_
  rintro e w7 ⟨rfl, hb7⟩
  have hbel7 := bstep1 hbel6 (Nat.le_refl _) hb7
  simp only [decide_true]
  clear hb7 hbel6
  go_wp2
  go_ret
  exact ⟨rfl, hbel7⟩

end Go.Proofs.Ytacmigimkdiagaa
