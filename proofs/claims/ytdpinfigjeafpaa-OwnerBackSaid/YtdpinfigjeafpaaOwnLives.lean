/- The walk of law 14's lives: it returns true, and writes nothing that was there. -/
import Derived.Test.YtdpinfigjeafpaaOwnLaws
namespace Go.Proofs.Ytdpinfigjeafpaa
open Go.RowKit
set_option linter.unusedVariables false
set_option linter.unusedSimpArgs false

theorem lacks_ex : lacksV [1, 2, 1] [0, 1] 1 = .tuple #[.int .i64 1, .bool true] := by
  rw [lacksV_some (k := 1) (by decide +kernel)]
  rfl

set_option maxHeartbeats 1000000 in
theorem own_lives (w : World) : Calls Try.prog 26 #[] w fun e w' => e = .returned (.bool true) ∧ Below w.heap.size w w' := by
  go_enter Try.func26, Try.ntmps26
  go_wp2_with fail
  refine (owner_take [0, 2, 0] [0, 2] _ _ 1 _ ((IntsAt.lit _ [0, 2, 0]).alloc _) (IntsAt.lit2 _ _ [0, 2]) (by simp)).mono ?_
  rintro e w1 ⟨⟨v1, rfl, q1⟩, hb1⟩
  have hbel1 : Below w.heap.size w w1 := (of_alloc (of_alloc hb1))
  clear hb1
  simp only [show takeR [0, 2, 0] [0, 2] 1 = ([1, 2, 1], 0, 0) from by decide +kernel] at q1 ⊢
  go_wp2_with fail
  refine (owner_take [1, 2, 1] [0, 1] _ _ 1 _ (q1.alloc _) (IntsAt.lit _ [0, 1]) (by simp)).mono ?_
  rintro e w2 ⟨⟨v2, rfl, q2⟩, hb2⟩
  have hbel2 := bstep1 hbel1 (Nat.le_refl _) hb2
  replace q1 := (q1.alloc _).below hb2
  clear hb2 hbel1
  simp only [show takeR [1, 2, 1] [0, 1] 1 = ([], 1, 140) from by decide +kernel] at q2 ⊢
  clear q2
  go_wp2_with fail
  refine (owner_give [1, 2, 1] [2] _ _ 1 _ (q1.alloc _) (IntsAt.lit _ [2]) (by simp)).mono ?_
  rintro e w3 ⟨⟨v3, rfl, q3⟩, hb3⟩
  have hbel3 := bstep1 hbel2 (Nat.le_refl _) hb3
  replace q1 := (q1.alloc _).below hb3
  clear hb3 hbel2
  simp only [show giveR [1, 2, 1] [2] 1 = ([1, 2, 0], 0, 0) from by decide +kernel] at q3 ⊢
  go_wp2_with fail
  refine (owner_lacks [1, 2, 1] [0, 1] _ _ 1 _ (q1.alloc _) (IntsAt.lit _ [0, 1])).mono ?_
  rintro e w' ⟨rfl, rfl⟩
  rw [lacks_ex]
  go_wp2_with fail
  refine (ref03_same [1, 2, 1] [1, 2, 1] _ _ _ ((q1.alloc _).alloc _) (IntsAt.lit2 _ _ [1, 2, 1])).mono ?_
  rintro e w4 ⟨rfl, hb4⟩
  have hbel4 := bstep2 hbel3 (Nat.le_refl _) hb4
  replace q1 := ((q1.alloc _).alloc _).below hb4
  replace q3 := ((q3.alloc _).alloc _).below hb4
  clear hb4 hbel3
  simp only [decide_true]
  go_wp2_with fail
  refine (ref03_same [1, 2, 0] [1, 2, 0] _ _ _ (q3.alloc _) (IntsAt.lit _ [1, 2, 0])).mono ?_
  rintro e w5 ⟨rfl, hb5⟩
  have hbel5 := bstep1 hbel4 (Nat.le_refl _) hb5
  replace q1 := (q1.alloc _).below hb5
  replace q3 := (q3.alloc _).below hb5
  clear hb5 hbel4
  simp only [decide_true]
  go_wp2_with fail
  refine (owner_of [1, 2, 1] _ 1 _ q1 (by simp)).mono ?_
  rintro e w6 ⟨⟨v4, rfl, q4⟩, hb6⟩
  have hbel6 := bstep hbel5 (Nat.le_refl _) hb6
  replace q1 := q1.below hb6
  replace q3 := q3.below hb6
  clear hb6 hbel5
  rw [show ofL [1, 2, 1] 1 = [0, 2] from by decide +kernel] at q4
  go_wp2_with fail
  refine (ref03_same [0, 2] [0, 2] _ _ _ (q4.alloc _) (IntsAt.lit _ [0, 2])).mono ?_
  rintro e w7 ⟨rfl, hb7⟩
  have hbel7 := bstep1 hbel6 (Nat.le_refl _) hb7
  replace q1 := (q1.alloc _).below hb7
  replace q3 := (q3.alloc _).below hb7
  replace q4 := (q4.alloc _).below hb7
  clear hb7 hbel6
  simp only [decide_true]
  go_wp2_with fail
  refine (owner_right [1, 2, 1] _ _ q1).mono ?_
  rintro e w8 ⟨rfl, hb8⟩
  have hbel8 := bstep hbel7 (Nat.le_refl _) hb8
  replace q1 := q1.below hb8
  replace q3 := q3.below hb8
  replace q4 := q4.below hb8
  clear hb8 hbel7
  simp only [show rightO [1, 2, 1] = true from by decide +kernel]
  go_wp2_with fail
  refine (owner_new 3 _ (by decide)).mono ?_
  rintro e w9 ⟨⟨v5, rfl, hown⟩, hb9⟩
  have hbel9 := bstep hbel8 (Nat.le_refl _) hb9
  replace q1 := q1.below hb9
  replace q3 := q3.below hb9
  replace q4 := q4.below hb9
  clear hb9 hbel8
  obtain ⟨a5, c5, rfl, _⟩ := hown.ints
  clear hown
  go_wp2_with fail
  go_ret
  exact ⟨rfl, hbel9⟩

end Go.Proofs.Ytdpinfigjeafpaa
