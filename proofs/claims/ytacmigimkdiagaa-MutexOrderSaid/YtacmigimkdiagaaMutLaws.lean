/- Walks of MutexDoes, MutexStuck, MutexOrder: they return true. -/
import Derived.Test.YtacmigimkdiagaaMutLives
import Derived.Test.YtacmigimkdiagaaMutPlain
namespace Go.Proofs.Ytacmigimkdiagaa
open Go.RowKit
set_option linter.unusedVariables false
set_option linter.unusedSimpArgs false

set_option maxHeartbeats 2000000 in
set_option maxRecDepth 100000 in
theorem mutex_does_law (t : List Int) (u : Value) (id who : Int) (w : World) (ht : IntsAt w u t) :
    Calls Try.prog 7 #[u, .int .i64 id, .int .i64 who] w fun e w' => e = .returned (.bool true) ∧ Below w.heap.size w w' := by
  have ht' := ht
  obtain ⟨a, ca, rfl, _⟩ := ht'
  have hl2 : t.length ≤ 9223372036854775807 := by obtain ⟨_, _, h, h1, h2, _⟩ := ht; unfold maxLen at h2; omega
  by_cases hg1 : 1000 < t.length
  · go_enter Try.func7, Try.ntmps7
    go_wp2_with fail
    refine (mut_lives _).mono ?_
    rintro e w1 ⟨rfl, hb1⟩
    go_wp2
    go_ret
    exact ⟨rfl, hb1⟩
  obtain ⟨r1, r2, hR⟩ : ∃ r1 r2, lockT t id who = (r1, r2) := ⟨_, _, rfl⟩
  obtain ⟨s1, s2, hS⟩ : ∃ s1 s2, unlockT t id who = (s1, s2) := ⟨_, _, rfl⟩
  obtain ⟨rr, hrr⟩ : ∃ rr, rightO t = rr := ⟨_, rfl⟩
  have HR := Lib.hid hR
  have HS := Lib.hid hS
  have HRR := Lib.hid hrr
  clear hR hS hrr
  have q0 := ht
  clear ht
  go_enter Try.func7, Try.ntmps7
  go_wp2_with (at_builtin; refine wpList_append_ints rfl (.tmp 20) (.tmp 21) rfl w.heap.size _ [] rfl (own_empty _ _ (Nat.le_refl _)) _ t rfl (q0.alloc _) ?_ ?_ ?_)
  · simp
    omega
  · simp
  intro v1 w1 hown1 hg1 hb1
  have hbel1 : Below w.heap.size w w1 := ((Below.refl _ _).alloc (Nat.le_refl _) _).trans hb1
  have q1 : IntsAt w1 v1 t := OwnInts.ints hown1
  replace q0 := q0.below hbel1
  clear hown1 hg1 hb1
  go_wp2_with fail
  refine (mutex_lock t _ id who _ q1 (by omega)).mono ?_
  rintro e w2 ⟨⟨v2, rfl, q2⟩, hb2⟩
  rw [HR.out] at q2 ⊢
  have hbel2 := bstep hbel1 (Nat.le_refl _) hb2
  replace q0 := q0.below hb2
  replace q1 := q1.below hb2
  clear hb2 hbel1
  go_wp2_with fail
  refine (mutex_unlock t _ id who _ q1 (by omega)).mono ?_
  rintro e w3 ⟨⟨v3, rfl, q3⟩, hb3⟩
  rw [HS.out] at q3 ⊢
  have hbel3 := bstep hbel2 (Nat.le_refl _) hb3
  replace q0 := q0.below hb3
  replace q1 := q1.below hb3
  replace q2 := q2.below hb3
  clear hb3 hbel2
  go_wp2_with fail
  refine (ref17_lock t _ id who _ q0 (by omega)).mono ?_
  rintro e w4 ⟨⟨v4, rfl, q4⟩, hb4⟩
  rw [HR.out] at q4 ⊢
  have hbel4 := bstep hbel3 (Nat.le_refl _) hb4
  replace q0 := q0.below hb4
  replace q1 := q1.below hb4
  replace q2 := q2.below hb4
  replace q3 := q3.below hb4
  clear hb4 hbel3
  go_wp2_with fail
  refine (ref17_unlock t _ id who _ q0 (by omega)).mono ?_
  rintro e w5 ⟨⟨v5, rfl, q5⟩, hb5⟩
  rw [HS.out] at q5 ⊢
  have hbel5 := bstep hbel4 (Nat.le_refl _) hb5
  replace q0 := q0.below hb5
  replace q1 := q1.below hb5
  replace q2 := q2.below hb5
  replace q3 := q3.below hb5
  replace q4 := q4.below hb5
  clear hb5 hbel4
  go_wp2_with fail
  refine (mut_lives _).mono ?_
  rintro e w6 ⟨rfl, hb6⟩
  have hbel6 := bstep hbel5 (Nat.le_refl _) hb6
  replace q0 := q0.below hb6
  replace q1 := q1.below hb6
  replace q2 := q2.below hb6
  replace q3 := q3.below hb6
  replace q4 := q4.below hb6
  replace q5 := q5.below hb6
  clear hb6 hbel5
  go_wp2_with fail
  refine (ref03_same _ _ _ _ _ q2 q4).mono ?_
  rintro e w7 ⟨rfl, hb7⟩
  simp only [decide_true]
  have hbel7 := bstep hbel6 (Nat.le_refl _) hb7
  replace q0 := q0.below hb7
  replace q1 := q1.below hb7
  replace q2 := q2.below hb7
  replace q3 := q3.below hb7
  replace q4 := q4.below hb7
  replace q5 := q5.below hb7
  clear hb7 hbel6
  clear q2 q4
  go_wp2_with fail
  refine (ref03_same _ _ _ _ _ q3 q5).mono ?_
  rintro e w8 ⟨rfl, hb8⟩
  simp only [decide_true]
  have hbel8 := bstep hbel7 (Nat.le_refl _) hb8
  replace q0 := q0.below hb8
  replace q1 := q1.below hb8
  replace q3 := q3.below hb8
  replace q5 := q5.below hb8
  clear hb8 hbel7
  clear q3 q5
  go_wp2_with fail
  refine (ref03_same _ _ _ _ _ q1 q0).mono ?_
  rintro e w9 ⟨rfl, hb9⟩
  simp only [decide_true]
  have hbel9 := bstep hbel8 (Nat.le_refl _) hb9
  replace q0 := q0.below hb9
  replace q1 := q1.below hb9
  clear hb9 hbel8
  go_wp2_with fail
  refine (mutex_right t _ _ q1).mono ?_
  rintro e w10 ⟨rfl, hb10⟩
  rw [HRR.out]
  have hbel10 := bstep hbel9 (Nat.le_refl _) hb10
  replace q0 := q0.below hb10
  replace q1 := q1.below hb10
  clear hb10 hbel9
  go_wp2_with fail
  refine (ref17_right t _ _ q0).mono ?_
  rintro e w11 ⟨rfl, rfl⟩
  rw [HRR.out]
  go_wp2_with fail
  refine (mutex_Held t _ who _ q1 (by omega)).mono ?_
  rintro e w11 ⟨⟨v11, rfl, q6⟩, hb11⟩
  have hbel11 := bstep hbel10 (Nat.le_refl _) hb11
  replace q0 := q0.below hb11
  replace q1 := q1.below hb11
  clear hb11 hbel10
  go_wp2_with fail
  refine (ref17_Held t _ who _ q0 (by omega)).mono ?_
  rintro e w12 ⟨⟨v12, rfl, q7⟩, hb12⟩
  have hbel12 := bstep hbel11 (Nat.le_refl _) hb12
  replace q0 := q0.below hb12
  replace q1 := q1.below hb12
  replace q6 := q6.below hb12
  clear hb12 hbel11
  go_wp2_with fail
  refine (ref03_same _ _ _ _ _ q6 q7).mono ?_
  rintro e w13 ⟨rfl, hb13⟩
  simp only [decide_true]
  have hbel13 := bstep hbel12 (Nat.le_refl _) hb13
  replace q0 := q0.below hb13
  replace q1 := q1.below hb13
  replace q6 := q6.below hb13
  replace q7 := q7.below hb13
  clear hb13 hbel12
  go_wp2
  go_ret
  exact ⟨by first | rfl | simp, hbel13⟩

set_option maxHeartbeats 2000000 in
set_option maxRecDepth 100000 in
theorem mutex_stuck_law (t : List Int) (u : Value) (ws : List Int) (v : Value) (w : World) (ht : IntsAt w u t) (hw : IntsAt w v ws) :
    Calls Try.prog 8 #[u, v] w fun e w' => e = .returned (.bool true) ∧ Below w.heap.size w w' := by
  have ht' := ht
  obtain ⟨a, ca, rfl, _⟩ := ht'
  obtain ⟨b, cb, rfl, _⟩ := id hw
  have hl2 : t.length ≤ 9223372036854775807 := by obtain ⟨_, _, h, h1, h2, _⟩ := ht; unfold maxLen at h2; omega
  have hm2 : ws.length ≤ 9223372036854775807 := by obtain ⟨_, _, h, h1, h2, _⟩ := hw; unfold maxLen at h2; omega
  by_cases hg1 : 1000 < t.length
  · go_enter Try.func8, Try.ntmps8
    go_wp2_with fail
    refine (mut_lives _).mono ?_
    rintro e w1 ⟨rfl, hb1⟩
    go_wp2
    go_ret
    exact ⟨rfl, hb1⟩
  by_cases hg2 : 100 < ws.length
  · go_enter Try.func8, Try.ntmps8
    go_wp2_with fail
    refine (mut_lives _).mono ?_
    rintro e w1 ⟨rfl, hb1⟩
    go_wp2
    go_ret
    exact ⟨rfl, hb1⟩
  obtain ⟨oo, hoo⟩ : ∃ oo, orderedB t ws = oo := ⟨_, rfl⟩
  have HO := Lib.hid hoo
  clear hoo
  have q0 := ht
  have p0 := hw
  clear ht hw
  go_enter Try.func8, Try.ntmps8
  have hbel0 := Below.refl w.heap.size w
  go_wp2_with fail
  refine (mut_lives _).mono ?_
  rintro e w1 ⟨rfl, hb1⟩
  have hbel1 := bstep hbel0 (Nat.le_refl _) hb1
  replace q0 := q0.below hb1
  replace p0 := p0.below hb1
  clear hb1 hbel0
  go_wp2_with fail
  refine (mutex_Stuck t ws _ _ _ q0 p0).mono ?_
  intro e w2 hst
  obtain ⟨⟨v2, rfl, q1⟩, hb2⟩ := stuckL_of hst
  clear hst
  have hbel2 := bstep hbel1 (Nat.le_refl _) hb2
  replace q0 := q0.below hb2
  replace p0 := p0.below hb2
  clear hb2 hbel1
  go_wp2_with fail
  refine (ref17_Stuck t ws _ _ _ q0 p0).mono ?_
  intro e w3 hst
  obtain ⟨⟨v3, rfl, q2⟩, hb3⟩ := stuckL_of hst
  clear hst
  have hbel3 := bstep hbel2 (Nat.le_refl _) hb3
  replace q0 := q0.below hb3
  replace p0 := p0.below hb3
  replace q1 := q1.below hb3
  clear hb3 hbel2
  go_wp2_with fail
  refine (ref03_same _ _ _ _ _ q1 q2).mono ?_
  rintro e w4 ⟨rfl, hb4⟩
  simp only [decide_true]
  have hbel4 := bstep hbel3 (Nat.le_refl _) hb4
  replace q0 := q0.below hb4
  replace p0 := p0.below hb4
  replace q1 := q1.below hb4
  replace q2 := q2.below hb4
  clear hb4 hbel3
  clear q1 q2
  go_wp2_with fail
  refine (mutex_Ordered t ws _ _ _ q0 p0).mono ?_
  rintro e w5 ⟨rfl, hb5⟩
  rw [HO.out]
  have hbel5 := bstep hbel4 (Nat.le_refl _) hb5
  replace q0 := q0.below hb5
  replace p0 := p0.below hb5
  clear hb5 hbel4
  go_wp2_with fail
  refine (ref17_Ordered t ws _ _ _ q0 p0).mono ?_
  rintro e w6 ⟨rfl, rfl⟩
  rw [HO.out]
  go_wp2
  go_ret
  exact ⟨by first | rfl | simp, hbel5⟩

set_option maxHeartbeats 2000000 in
set_option maxRecDepth 100000 in
theorem mutex_order_law (t : List Int) (u : Value) (ws : List Int) (v : Value) (w : World) (ht : IntsAt w u t) (hw : IntsAt w v ws) :
    Calls Try.prog 9 #[u, v] w fun e w' => e = .returned (.bool true) ∧ Below w.heap.size w w' := by
  have ht' := ht
  obtain ⟨a, ca, rfl, _⟩ := ht'
  obtain ⟨b, cb, rfl, _⟩ := id hw
  have hl2 : t.length ≤ 9223372036854775807 := by obtain ⟨_, _, h, h1, h2, _⟩ := ht; unfold maxLen at h2; omega
  have hm2 : ws.length ≤ 9223372036854775807 := by obtain ⟨_, _, h, h1, h2, _⟩ := hw; unfold maxLen at h2; omega
  by_cases hg1 : 1000 < t.length
  · go_enter Try.func9, Try.ntmps9
    go_wp2_with fail
    refine (mut_lives _).mono ?_
    rintro e w1 ⟨rfl, hb1⟩
    go_wp2
    go_ret
    exact ⟨rfl, hb1⟩
  by_cases hg2 : 100 < ws.length
  · go_enter Try.func9, Try.ntmps9
    go_wp2_with fail
    refine (mut_lives _).mono ?_
    rintro e w1 ⟨rfl, hb1⟩
    go_wp2
    go_ret
    exact ⟨rfl, hb1⟩
  have q0 := ht
  have p0 := hw
  clear ht hw
  cases hoo : orderedB t ws with
  | false =>
    go_enter Try.func9, Try.ntmps9
    go_wp2_with fail
    refine (mutex_Ordered t ws _ _ _ q0 p0).mono ?_
    rintro e w1 ⟨rfl, hb1⟩
    rw [hoo]
    go_wp2_with fail
    refine (mut_lives _).mono ?_
    rintro e w2 ⟨rfl, hb2⟩
    go_wp2
    go_ret
    exact ⟨rfl, bstep hb1 (Nat.le_refl _) hb2⟩
  | true =>
    have HOO := Lib.hid hoo
    go_enter Try.func9, Try.ntmps9
    go_wp2_with fail
    refine (mutex_Ordered t ws _ _ _ q0 p0).mono ?_
    rintro e w1 ⟨rfl, hb1⟩
    rw [hoo]
    clear hoo
    replace q0 := q0.below hb1
    replace p0 := p0.below hb1
    go_wp2_with fail
    refine (mut_lives _).mono ?_
    rintro e w2 ⟨rfl, hb2⟩
    replace q0 := q0.below hb2
    replace p0 := p0.below hb2
    have hbel2 := bstep hb1 (Nat.le_refl _) hb2
    clear hb1 hb2
    go_wp2_with fail
    refine (mutex_Stuck t ws _ _ _ q0 p0).mono ?_
    intro e w3 hst
    obtain ⟨⟨v3, rfl, q3⟩, hb3⟩ := stuckL_of hst
    clear hst
    have hbel3 := bstep hbel2 (Nat.le_refl _) hb3
    rw [stuckL_ordered HOO.out] at q3
    obtain ⟨a3, c3, rfl, _⟩ := q3
    clear hb3 hbel2
    go_wp2
    go_ret
    exact ⟨by first | rfl | simp, hbel3⟩

end Go.Proofs.Ytacmigimkdiagaa
