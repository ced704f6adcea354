/- Walks of PlanMakes and PlanTells: they return true. -/
import Derived.Test.YtacmigimkdiagaaPlanLives
namespace Go.Proofs.Ytacmigimkdiagaa
open Go.RowKit
set_option linter.unusedVariables false
set_option linter.unusedSimpArgs false

set_option maxHeartbeats 1000000 in
theorem plan_makes_law (ids : List Int) (v : Value) (looks : Bool) (k : Int) (w : World) (hi : IntsAt w v ids) :
    Calls Try.prog 3 #[v, .bool looks, .int .i64 k] w fun e w' => e = .returned (.bool true) ∧ Below w.heap.size w w' := by
  obtain ⟨a, ca, rfl, hl1, hl2, _⟩ := id hi
  unfold maxLen at hl2
  by_cases hlen : 200 < ids.length
  · go_enter Try.func3, Try.ntmps3
    go_wp2_with fail
    refine (plan_lives _).mono ?_
    rintro e w1 ⟨rfl, hb1⟩
    go_wp2
    go_ret
    exact ⟨rfl, hb1⟩
  have q := hi
  clear hi
  go_enter Try.func3, Try.ntmps3
  go_wp2_with fail
  refine (plan_lives _).mono ?_
  rintro e w1 ⟨rfl, hb1⟩
  have hbel1 : Below w.heap.size w w1 := hb1
  replace q := q.below hb1
  clear hb1
  go_wp2_with fail
  refine (plan_make ids _ looks _ q (by omega)).mono ?_
  rintro e w2 ⟨⟨v2, rfl, p2⟩, hb2⟩
  have hbel2 := bstep hbel1 (Nat.le_refl _) hb2
  replace q := q.below hb2
  clear hb2 hbel1
  go_wp2_with fail
  refine (ref18_make ids _ looks _ q (by omega)).mono ?_
  rintro e w3 ⟨⟨v3, rfl, p3⟩, hb3⟩
  have hbel3 := bstep hbel2 (Nat.le_refl _) hb3
  replace q := q.below hb3
  replace p2 := PlanAt.below p2 hb3
  clear hb3 hbel2
  go_wp2_with fail
  refine (ref18_same _ _ _ _ _ p2 p3).mono ?_
  rintro e w4 ⟨rfl, hb4⟩
  have hbel4 := bstep hbel3 (Nat.le_refl _) hb4
  replace q := q.below hb4
  clear hb4 hbel3 p2 p3
  simp only [decide_true]
  go_wp2_with fail
  refine (plan_back ids _ k _ q (by omega)).mono ?_
  rintro e w5 ⟨⟨v5, rfl, p5⟩, hb5⟩
  have hbel5 := bstep hbel4 (Nat.le_refl _) hb5
  replace q := q.below hb5
  clear hb5 hbel4
  go_wp2_with fail
  refine (ref18_back ids _ k _ q (by omega)).mono ?_
  rintro e w6 ⟨⟨v6, rfl, p6⟩, hb6⟩
  have hbel6 := bstep hbel5 (Nat.le_refl _) hb6
  replace q := q.below hb6
  replace p5 := PlanAt.below p5 hb6
  clear hb6 hbel5
  go_wp2_with fail
  refine (ref18_same _ _ _ _ _ p5 p6).mono ?_
  rintro e w7 ⟨rfl, hb7⟩
  have hbel7 := bstep hbel6 (Nat.le_refl _) hb7
  clear hb7 hbel6 p5 p6 q
  simp only [decide_true]
  go_wp2_with fail
  refine (plan_steps k looks _).mono ?_
  rintro e w8 ⟨rfl, rfl⟩
  go_wp2_with fail
  refine (ref18_steps k looks _).mono ?_
  rintro e w9 ⟨rfl, rfl⟩
  go_wp2
  go_ret
  exact ⟨by first | rfl | simp, hbel7⟩

set_option maxHeartbeats 1000000 in
theorem plan_tells_law (l : List (Int × Int)) (v : Value) (k : Int) (w : World) (hi : PlanAt w v l) :
    Calls Try.prog 4 #[v, .int .i64 k] w fun e w' => e = .returned (.bool true) ∧ Below w.heap.size w w' := by
  obtain ⟨a, ca, rfl, hl1, hl2, _⟩ := id hi
  unfold maxLen at hl2
  by_cases hlen : 300 < l.length
  · go_enter Try.func4, Try.ntmps4
    go_wp2_with fail
    refine (plan_lives _).mono ?_
    rintro e w1 ⟨rfl, hb1⟩
    go_wp2
    go_ret
    exact ⟨rfl, hb1⟩
  have q := hi
  clear hi
  go_enter Try.func4, Try.ntmps4
  go_wp2_with fail
  refine (plan_lives _).mono ?_
  rintro e w1 ⟨rfl, hb1⟩
  have hbel1 : Below w.heap.size w w1 := hb1
  replace q := PlanAt.below q hb1
  clear hb1
  go_wp2_with fail
  refine (plan_two l _ _ q (by omega)).mono ?_
  rintro e w2 ⟨rfl, hb2⟩
  have hbel2 := bstep hbel1 (Nat.le_refl _) hb2
  replace q := PlanAt.below q hb2
  clear hb2 hbel1
  go_wp2_with fail
  refine (ref18_two l _ _ q (by omega)).mono ?_
  rintro e w3 ⟨rfl, hb3⟩
  have hbel3 := bstep hbel2 (Nat.le_refl _) hb3
  replace q := PlanAt.below q hb3
  clear hb3 hbel2
  go_wp2_with fail
  refine (plan_holds l _ k _ q (by omega)).mono ?_
  rintro e w4 ⟨⟨v4, rfl, p4⟩, hb4⟩
  have hbel4 := bstep hbel3 (Nat.le_refl _) hb4
  replace q := PlanAt.below q hb4
  clear hb4 hbel3
  go_wp2_with fail
  refine (ref18_holds l _ k _ q (by omega)).mono ?_
  rintro e w5 ⟨⟨v5, rfl, p5⟩, hb5⟩
  have hbel5 := bstep hbel4 (Nat.le_refl _) hb5
  replace p4 := p4.below hb5
  clear hb5 hbel4
  go_wp2_with fail
  refine (ref03_same _ _ _ _ _ p4 p5).mono ?_
  rintro e w6 ⟨rfl, hb6⟩
  have hbel6 := bstep hbel5 (Nat.le_refl _) hb6
  simp only [decide_true]
  go_wp2
  go_ret
  exact ⟨by first | rfl | simp, hbel6⟩

end Go.Proofs.Ytacmigimkdiagaa
