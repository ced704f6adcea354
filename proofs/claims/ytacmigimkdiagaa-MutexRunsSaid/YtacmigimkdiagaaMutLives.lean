/- What must come of every program: law 17's lives. -/
import Derived.Test.YtacmigimkdiagaaMutNew
import Derived.Test.YtacmigimkdiagaaMutRef
import Derived.Test.YtacmigimkdiagaaMutHeld
import Derived.Test.YtacmigimkdiagaaMutRefStuck
import Derived.Test.YtacmigimkdiagaaMutOrdRef
import Derived.Test.YtacmigimkdiagaaPlanMake
namespace Go.Proofs.Ytacmigimkdiagaa
open Go.RowKit
set_option linter.unusedVariables false
set_option linter.unusedSimpArgs false

theorem lives_l1 : lockT (List.replicate 3 0) 0 1 = ([1, 0, 0], 0) := by decide
theorem lives_l2 : lockT [1, 0, 0] 1 2 = ([1, 2, 0], 0) := by decide
theorem lives_l3 : lockT [1, 2, 0] 1 1 = ([], 170) := by decide
theorem lives_l4 : unlockT [1, 2, 0] 0 1 = ([0, 2, 0], 0) := by decide
theorem lives_held : heldT [1, 2, 0] 2 = [1] := by decide
theorem lives_ordered : orderedB [1, 2, 0] [1, 2] = true := by decide
theorem lives_right : rightO [1, 2, 0] = true := by decide
theorem lives_stuck {F : List Bool} (h : Least [1, 2, 0] [1, 0] F) : stuckOf F = [1, 2] := by
  have h0 : Least [1, 2, 0] [1, 0] (onT [1, 2, 0] [1, 0] (List.replicate 9 false)) := (below9_none _ _).on.least (by decide)
  rw [h.uniq h0]
  decide
theorem stuck_lives {w w' : World} {e : Ending} (h : GivesStuck [1, 2, 0] [1, 0] w e w') : GivesInts w [1, 2] e w' := by
  unfold GivesStuck at h
  rw [if_pos ⟨lives_right, by decide⟩] at h
  obtain ⟨F, hF, hg⟩ := h
  rw [lives_stuck hF] at hg
  exact hg

set_option maxHeartbeats 1600000 in
theorem mut_lives (w : World) : Calls Try.prog 26 #[] w fun e w' => e = .returned (.bool true) ∧ Below w.heap.size w w' := by
  go_enter Try.func26, Try.ntmps26
  go_wp2_with fail
  refine (mutex_new 3 _ (by decide)).mono ?_
  rintro e w1 ⟨⟨v1, rfl, q1⟩, hb1⟩
  have hbel1 := hb1
  clear hb1
  go_wp2_with fail
  refine (mutex_lock (List.replicate 3 0) _ 0 1 _ q1 (by decide)).mono ?_
  rintro e w2 ⟨⟨v2, rfl, q2⟩, hb2⟩
  have hbel2 := bstep hbel1 (Nat.le_refl _) hb2
  rw [lives_l1] at q2 ⊢
  clear hb2 hbel1 q1
  go_wp2_with fail
  refine (mutex_lock [1, 0, 0] _ 1 2 _ q2 (by decide)).mono ?_
  rintro e w3 ⟨⟨v3, rfl, q3⟩, hb3⟩
  have hbel3 := bstep hbel2 (Nat.le_refl _) hb3
  rw [lives_l2] at q3 ⊢
  clear hb3 hbel2 q2
  go_wp2_with fail
  refine (mutex_lock [1, 2, 0] _ 1 1 _ q3 (by decide)).mono ?_
  rintro e w4 ⟨⟨v4, rfl, q4⟩, hb4⟩
  have hbel4 := bstep hbel3 (Nat.le_refl _) hb4
  replace q3 := q3.below hb4
  rw [lives_l3]
  clear hb4 hbel3 q4
  go_wp2_with fail
  refine (mutex_unlock [1, 2, 0] _ 0 1 _ q3 (by decide)).mono ?_
  rintro e w5 ⟨⟨v5, rfl, q5⟩, hb5⟩
  have hbel5 := bstep hbel4 (Nat.le_refl _) hb5
  replace q3 := q3.below hb5
  rw [lives_l4] at q5 ⊢
  clear hb5 hbel4
  go_wp2_with fail
  refine (ref03_same [0, 2, 0] [0, 2, 0] _ _ _ (q5.alloc _) (IntsAt.lit_at _ [0, 2, 0] (by simp [maxLen]) rfl)).mono ?_
  rintro e w6 ⟨rfl, hb6⟩
  have hbel6 := bstep1 hbel5 (Nat.le_refl _) hb6
  replace q3 := (q3.alloc _).below hb6
  clear hb6 hbel5 q5
  simp only [decide_true]
  go_wp2_with fail
  refine (mutex_Held [1, 2, 0] _ 2 _ q3 (by decide)).mono ?_
  rintro e w7 ⟨⟨v7, rfl, q7⟩, hb7⟩
  have hbel7 := bstep hbel6 (Nat.le_refl _) hb7
  replace q3 := q3.below hb7
  rw [lives_held] at q7
  clear hb7 hbel6
  go_wp2_with fail
  refine (ref03_same [1] [1] _ _ _ (q7.alloc _) (IntsAt.lit_at _ [1] (by simp [maxLen]) rfl)).mono ?_
  rintro e w8 ⟨rfl, hb8⟩
  have hbel8 := bstep1 hbel7 (Nat.le_refl _) hb8
  replace q3 := (q3.alloc _).below hb8
  clear hb8 hbel7 q7
  simp only [decide_true]
  go_wp2_with fail
  refine (mutex_Stuck [1, 2, 0] [1, 0] _ _ _ (q3.alloc _) (IntsAt.lit_at _ [1, 0] (by simp [maxLen]) rfl)).mono ?_
  intro e w9 hst
  obtain ⟨⟨v9, rfl, q9⟩, hb9⟩ := stuck_lives hst
  clear hst
  have hbel9 := bstep1 hbel8 (Nat.le_refl _) hb9
  replace q3 := (q3.alloc _).below hb9
  clear hb9 hbel8
  go_wp2_with fail
  refine (ref03_same [1, 2] [1, 2] _ _ _ (q9.alloc _) (IntsAt.lit_at _ [1, 2] (by simp [maxLen]) rfl)).mono ?_
  rintro e w10 ⟨rfl, hb10⟩
  have hbel10 := bstep1 hbel9 (Nat.le_refl _) hb10
  replace q3 := (q3.alloc _).below hb10
  clear hb10 hbel9 q9
  simp only [decide_true]
  go_wp2_with fail
  refine (mutex_Ordered [1, 2, 0] [1, 2] _ _ _ (q3.alloc _) (IntsAt.lit_at _ [1, 2] (by simp [maxLen]) rfl)).mono ?_
  rintro e w11 ⟨rfl, hb11⟩
  have hbel11 := bstep1 hbel10 (Nat.le_refl _) hb11
  replace q3 := (q3.alloc _).below hb11
  clear hb11 hbel10
  rw [lives_ordered]
  go_wp2_with fail
  refine (mutex_right [1, 2, 0] _ _ q3).mono ?_
  rintro e w12 ⟨rfl, hb12⟩
  have hbel12 := bstep hbel11 (Nat.le_refl _) hb12
  clear hb12 hbel11 q3
  rw [lives_right]
  go_wp2
  go_ret
  exact ⟨rfl, hbel12⟩

end Go.Proofs.Ytacmigimkdiagaa
