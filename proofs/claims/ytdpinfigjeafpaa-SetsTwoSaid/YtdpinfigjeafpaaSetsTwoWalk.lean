/- Walk of SetsTwo: it returns true, and writes nothing that was there. -/
import Derived.Test.YtdpinfigjeafpaaSetWalks
namespace Go.Proofs.Ytdpinfigjeafpaa
open Go.RowKit
set_option linter.unusedVariables false
set_option linter.unusedSimpArgs false

theorem apart_both (a b : List Int) : (apartB a b == (((bothL a b).length : Int) == 0)) = true := by
  have h : apartB a b = true ↔ (bothL a b).length = 0 := by
    rw [apartB_iff, List.length_eq_zero_iff, List.eq_nil_iff_forall_not_mem]
    constructor
    · intro h n hn
      rw [mem_bothL] at hn
      exact h n hn.1 hn.2
    · intro h n h1 h2
      exact h n ((mem_bothL a b n).2 ⟨h1, h2⟩)
  rw [beq_iff_eq, Bool.eq_iff_iff, h, beq_iff_eq]
  omega

set_option maxHeartbeats 1000000 in
theorem sets_two_law (l : List Int) (u : Value) (m : List Int) (v : Value) (w : World) (hl : IntsAt w u l) (hm : IntsAt w v m) : Calls Try.prog 11 #[u, v] w fun e w' => e = .returned (.bool true) ∧ Below w.heap.size w w' := by
  obtain ⟨a, ca, rfl, _⟩ := id hl
  obtain ⟨b, cb, rfl, _⟩ := id hm
  have hl2 : l.length ≤ 9223372036854775807 := by obtain ⟨_, _, h, h1, h2, _⟩ := hl; unfold maxLen at h2; omega
  have hm2 : m.length ≤ 9223372036854775807 := by obtain ⟨_, _, h, h1, h2, _⟩ := hm; unfold maxLen at h2; omega
  by_cases hlen : 200 < l.length
  · go_enter Try.func11, Try.ntmps11
    go_wp2_with fail
    refine (sets_lives _).mono ?_
    rintro e w1 ⟨rfl, hb1⟩
    go_wp2
    go_ret
    exact ⟨rfl, hb1⟩
  by_cases hlen2 : 200 < m.length
  · go_enter Try.func11, Try.ntmps11
    go_wp2_with fail
    refine (sets_lives _).mono ?_
    rintro e w1 ⟨rfl, hb1⟩
    go_wp2
    go_ret
    exact ⟨rfl, hb1⟩
  have q0 := hl
  have p0 := hm
  clear hl hm
  have lenA := fromL_len l
  have lenB := fromL_len m
  have HX := Lib.hid (apart_both (fromL l) (fromL m))
  go_enter Try.func11, Try.ntmps11
  go_wp2_with fail
  refine (ref04_from l _ _ q0 (by omega)).mono ?_
  rintro e w1 ⟨⟨v1, rfl, q1⟩, hb1⟩
  have hbel1 : Below w.heap.size w w1 := hb1
  replace q0 := q0.below hb1
  replace p0 := p0.below hb1
  clear hb1
  clear q0
  go_wp2_with fail
  refine (ref04_from m _ _ p0 (by omega)).mono ?_
  rintro e w2 ⟨⟨v2, rfl, q2⟩, hb2⟩
  have hbel2 := bstep hbel1 (Nat.le_refl _) hb2
  replace p0 := p0.below hb2
  replace q1 := q1.below hb2
  clear hb2 hbel1
  clear p0
  go_wp2_with fail
  refine (sets_lives _).mono ?_
  rintro e w3 ⟨rfl, hb3⟩
  have hbel3 := bstep hbel2 (Nat.le_refl _) hb3
  replace q1 := q1.below hb3
  replace q2 := q2.below hb3
  clear hb3 hbel2
  go_wp2_with fail
  refine (sets_either (fromL l) (fromL m) _ _ _ q1 q2 (by omega) (by omega) (fromL_rise _) (fromL_rise _)).mono ?_
  rintro e w4 ⟨⟨v3, rfl, q3⟩, hb4⟩
  have hbel4 := bstep hbel3 (Nat.le_refl _) hb4
  replace q1 := q1.below hb4
  replace q2 := q2.below hb4
  clear hb4 hbel3
  go_wp2_with fail
  refine (ref04_either (fromL l) (fromL m) _ _ _ q1 q2 (by omega) (by omega)).mono ?_
  rintro e w5 ⟨⟨v4, rfl, q4⟩, hb5⟩
  have hbel5 := bstep hbel4 (Nat.le_refl _) hb5
  replace q1 := q1.below hb5
  replace q2 := q2.below hb5
  replace q3 := q3.below hb5
  clear hb5 hbel4
  go_wp2_with fail
  refine (ref03_same (eitherL (fromL l) (fromL m)) (eitherL (fromL l) (fromL m)) _ _ _ q3 q4).mono ?_
  rintro e w6 ⟨rfl, hb6⟩
  have hbel6 := bstep hbel5 (Nat.le_refl _) hb6
  replace q1 := q1.below hb6
  replace q2 := q2.below hb6
  replace q3 := q3.below hb6
  replace q4 := q4.below hb6
  clear hb6 hbel5
  simp only [decide_true]
  clear q3 q4
  go_wp2_with fail
  refine (sets_both (fromL l) (fromL m) _ _ _ q1 q2 (by omega) (by omega) (fromL_rise _) (fromL_rise _)).mono ?_
  rintro e w7 ⟨⟨v3, rfl, q3⟩, hb7⟩
  have hbel7 := bstep hbel6 (Nat.le_refl _) hb7
  replace q1 := q1.below hb7
  replace q2 := q2.below hb7
  clear hb7 hbel6
  go_wp2_with fail
  refine (ref04_both (fromL l) (fromL m) _ _ _ q1 q2 (by omega)).mono ?_
  rintro e w8 ⟨⟨v4, rfl, q4⟩, hb8⟩
  have hbel8 := bstep hbel7 (Nat.le_refl _) hb8
  replace q1 := q1.below hb8
  replace q2 := q2.below hb8
  replace q3 := q3.below hb8
  clear hb8 hbel7
  go_wp2_with fail
  refine (ref03_same (bothL (fromL l) (fromL m)) (bothL (fromL l) (fromL m)) _ _ _ q3 q4).mono ?_
  rintro e w9 ⟨rfl, hb9⟩
  have hbel9 := bstep hbel8 (Nat.le_refl _) hb9
  replace q1 := q1.below hb9
  replace q2 := q2.below hb9
  replace q3 := q3.below hb9
  replace q4 := q4.below hb9
  clear hb9 hbel8
  simp only [decide_true]
  clear q3 q4
  go_wp2_with fail
  refine (sets_less (fromL l) (fromL m) _ _ _ q1 q2 (by omega) (by omega) (fromL_rise _) (fromL_rise _)).mono ?_
  rintro e w10 ⟨⟨v3, rfl, q3⟩, hb10⟩
  have hbel10 := bstep hbel9 (Nat.le_refl _) hb10
  replace q1 := q1.below hb10
  replace q2 := q2.below hb10
  clear hb10 hbel9
  go_wp2_with fail
  refine (ref04_less (fromL l) (fromL m) _ _ _ q1 q2 (by omega)).mono ?_
  rintro e w11 ⟨⟨v4, rfl, q4⟩, hb11⟩
  have hbel11 := bstep hbel10 (Nat.le_refl _) hb11
  replace q1 := q1.below hb11
  replace q2 := q2.below hb11
  replace q3 := q3.below hb11
  clear hb11 hbel10
  go_wp2_with fail
  refine (ref03_same (lessL (fromL l) (fromL m)) (lessL (fromL l) (fromL m)) _ _ _ q3 q4).mono ?_
  rintro e w12 ⟨rfl, hb12⟩
  have hbel12 := bstep hbel11 (Nat.le_refl _) hb12
  replace q1 := q1.below hb12
  replace q2 := q2.below hb12
  replace q3 := q3.below hb12
  replace q4 := q4.below hb12
  clear hb12 hbel11
  simp only [decide_true]
  clear q3 q4
  go_wp2_with fail
  refine (sets_apart (fromL l) (fromL m) _ _ _ q1 q2 (fromL_rise _) (fromL_rise _)).mono ?_
  rintro e w' ⟨rfl, rfl⟩
  go_wp2_with fail
  refine (ref04_both (fromL l) (fromL m) _ _ _ q1 q2 (by omega)).mono ?_
  rintro e w13 ⟨⟨v3, rfl, q3⟩, hb13⟩
  have hbel13 := bstep hbel12 (Nat.le_refl _) hb13
  replace q1 := q1.below hb13
  replace q2 := q2.below hb13
  clear hb13 hbel12
  obtain ⟨a3, c3, rfl, _⟩ := id q3
  go_wp2_with fail
  go_ret
  exact ⟨ret_bool HX.out, hbel13⟩


end Go.Proofs.Ytdpinfigjeafpaa
