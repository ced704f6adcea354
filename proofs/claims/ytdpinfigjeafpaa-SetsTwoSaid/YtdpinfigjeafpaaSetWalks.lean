/- Walks of the statements on sets: each returns true, and writes nothing that was there. -/
import Derived.Test.YtdpinfigjeafpaaSetTwice
namespace Go.Proofs.Ytdpinfigjeafpaa
open Go.RowKit
set_option linter.unusedVariables false
set_option linter.unusedSimpArgs false

theorem wfs313 : Wfs [3, 1, 3] := by
  intro n hn
  have : n = 3 ∨ n = 1 ∨ n = 3 := by simpa using hn
  rcases this with rfl | rfl | rfl <;> decide

set_option maxHeartbeats 400000 in
theorem sets_lives (w : World) : Calls Try.prog 42 #[] w fun e w' => e = .returned (.bool true) ∧ Below w.heap.size w w' := by
  go_enter Try.func42, Try.ntmps42
  go_wp2_with fail
  refine (sets_from [3, 1, 3] _ _ (IntsAt.lit _ [3, 1, 3]) (by simp)).mono ?_
  rintro e w1 ⟨⟨v1, rfl, q1⟩, hb1⟩
  have hbel1 : Below w.heap.size w w1 := (of_alloc hb1)
  clear hb1
  rw [show fromL [3, 1, 3] = [1, 3] from by decide] at q1
  go_wp2_with fail
  refine (sets_less [1, 3] [3, 5] _ _ _ ((IntsAt.lit _ [1, 3]).alloc _) (IntsAt.lit2 _ _ [3, 5]) (by simp) (by simp) rfl rfl).mono ?_
  rintro e w2 ⟨⟨v2, rfl, q2⟩, hb2⟩
  have hbel2 := bstep2 hbel1 (Nat.le_refl _) hb2
  replace q1 := ((q1.alloc _).alloc _).below hb2
  clear hb2 hbel1
  rw [show lessL [1, 3] [3, 5] = [1] from by decide] at q2
  obtain ⟨b1, o1, c1, rfl, hb1, hc10, hc11⟩ := q1.two
  obtain ⟨b2, o2, c2, rfl, hb2, hc20⟩ := q2.single
  go_wp2_with fail
  refine (sets_right [1, 3] _ _ q1).mono ?_
  rintro e w3 ⟨rfl, hb3⟩
  have hbel3 := bstep hbel2 (Nat.le_refl _) hb3
  replace q1 := q1.below hb3
  replace q2 := q2.below hb3
  clear hb3 hbel2
  simp only [show riseB [1, 3] = true from rfl]
  go_wp2_with fail
  refine (sets_twice [3, 1, 3] _ _ (IntsAt.lit _ [3, 1, 3]) wfs313 (by simp)).mono ?_
  rintro e w4 ⟨rfl, hb4⟩
  have hbel4 := bstep1 hbel3 (Nat.le_refl _) hb4
  replace q1 := (q1.alloc _).below hb4
  replace q2 := (q2.alloc _).below hb4
  clear hb4 hbel3
  simp only [show twiceI [3, 1, 3] = 2 from by decide]
  go_wp2_with fail
  refine (sets_has [1, 3] _ _ _ q1 rfl).mono ?_
  rintro e w' ⟨rfl, rfl⟩
  simp only [show decide ((3 : Int) ∈ [(1 : Int), 3]) = true from by decide]
  go_wp2_with fail
  refine (sets_either [1, 3] [2] _ _ _ (q1.alloc _) (IntsAt.lit _ [2]) (by simp) (by simp) rfl rfl).mono ?_
  rintro e w5 ⟨⟨v3, rfl, q3⟩, hb5⟩
  have hbel5 := bstep1 hbel4 (Nat.le_refl _) hb5
  replace q1 := (q1.alloc _).below hb5
  replace q2 := (q2.alloc _).below hb5
  clear hb5 hbel4
  rw [show eitherL [1, 3] [2] = [1, 2, 3] from by decide] at q3
  obtain ⟨a3, c3, rfl, _⟩ := q3
  go_wp2_with fail
  refine (sets_both [1, 3] [1] _ _ _ (q1.alloc _) (IntsAt.lit _ [1]) (by simp) (by simp) rfl rfl).mono ?_
  rintro e w6 ⟨⟨v4, rfl, q4⟩, hb6⟩
  have hbel6 := bstep1 hbel5 (Nat.le_refl _) hb6
  replace q1 := (q1.alloc _).below hb6
  replace q2 := (q2.alloc _).below hb6
  clear hb6 hbel5
  rw [show bothL [1, 3] [1] = [1] from by decide] at q4
  obtain ⟨a4, c4, rfl, _⟩ := q4
  obtain ⟨b5, o5, c5, he5, hb5, hc5⟩ := q2.single
  cases he5
  go_wp2_with fail
  refine (sets_apart [1, 3] [2] _ _ _ (q1.alloc _) (IntsAt.lit _ [2]) rfl rfl).mono ?_
  rintro e w' ⟨rfl, rfl⟩
  simp only [show apartB [1, 3] [2] = true from by decide]
  go_wp2_with fail
  go_ret
  exact ⟨rfl, hbel6.alloc hbel6.size _⟩

end Go.Proofs.Ytdpinfigjeafpaa
