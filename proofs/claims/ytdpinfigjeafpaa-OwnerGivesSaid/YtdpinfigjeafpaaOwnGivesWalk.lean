/- The walk of law 14: OwnerGives: it returns true, and writes nothing that was there. -/
import Derived.Test.YtdpinfigjeafpaaOwnLives
namespace Go.Proofs.Ytdpinfigjeafpaa
open Go.RowKit
set_option linter.unusedVariables false
set_option linter.unusedSimpArgs false

set_option maxHeartbeats 2000000 in
set_option maxRecDepth 100000 in
theorem owner_gives_law (o : List Int) (u : Value) (ids : List Int) (v : Value) (who : Int) (w : World) (ho : IntsAt w u o) (hi : IntsAt w v ids) :
    Calls Try.prog 7 #[u, v, .int .i64 who] w fun e w' => e = .returned (.bool true) ∧ Below w.heap.size w w' := by
  obtain ⟨a, ca, rfl, _⟩ := id ho
  obtain ⟨b, cb, rfl, _⟩ := id hi
  have hl2 : o.length ≤ 9223372036854775807 := by obtain ⟨_, _, h, h1, h2, _⟩ := ho; unfold maxLen at h2; omega
  have hm2 : ids.length ≤ 9223372036854775807 := by obtain ⟨_, _, h, h1, h2, _⟩ := hi; unfold maxLen at h2; omega
  by_cases hg1 : 1000 < o.length
  · go_enter Try.func7, Try.ntmps7
    go_wp2_with fail
    refine (own_lives _).mono ?_
    rintro e w1 ⟨rfl, hb1⟩
    go_wp2
    go_ret
    exact ⟨rfl, hb1⟩
  by_cases hg2 : 1000 < ids.length
  · go_enter Try.func7, Try.ntmps7
    go_wp2_with fail
    refine (own_lives _).mono ?_
    rintro e w1 ⟨rfl, hb1⟩
    go_wp2
    go_ret
    exact ⟨rfl, hb1⟩
  obtain ⟨R, hR⟩ : ∃ R, giveR o ids who = R := ⟨_, rfl⟩
  obtain ⟨r1, r2, r3⟩ := R
  have HR := Lib.hid hR
  clear hR
  obtain ⟨l1, l2, hlk⟩ : ∃ l1 l2, lacksV o ids who = .tuple #[.int .i64 l1, .bool l2] := by
    unfold lacksV
    cases firstIdx (lackAt o ids who) ids.length with
    | none => exact ⟨_, _, rfl⟩
    | some k => exact ⟨_, _, rfl⟩
  have HLK := Lib.hid hlk
  clear hlk
  have q0 := ho
  have p0 := hi
  clear ho hi
  go_enter Try.func7, Try.ntmps7
  go_wp2_with (at_builtin; refine wpList_append_ints rfl (.tmp 27) (.tmp 28) rfl w.heap.size _ [] rfl (own_empty _ _ (Nat.le_refl _)) _ o rfl (q0.alloc _) ?_ ?_ ?_)
  · simp
    omega
  · simp
  intro v1 w1 hown1 hg1 hb1
  have hbel1 : Below w.heap.size w w1 := ((Below.refl _ _).alloc (Nat.le_refl _) _).trans hb1
  have q1 : IntsAt w1 v1 o := OwnInts.ints hown1
  replace q0 := q0.below hbel1
  replace p0 := p0.below hbel1
  clear hown1 hg1 hb1
  go_wp2_with fail
  refine (owner_give o ids _ _ who _ q1 p0 (by omega)).mono ?_
  rintro e w2 ⟨⟨v2, rfl, q2⟩, hb2⟩
  have hbel2 := bstep hbel1 (Nat.le_refl _) hb2
  replace q0 := q0.below hb2
  replace p0 := p0.below hb2
  replace q1 := q1.below hb2
  clear hb2 hbel1
  simp only [HR.out] at q2 ⊢
  go_wp2_with fail
  refine (ref14_give o ids _ _ who _ q0 p0 (by omega)).mono ?_
  rintro e w3 ⟨⟨v3, rfl, q3⟩, hb3⟩
  have hbel3 := bstep hbel2 (Nat.le_refl _) hb3
  replace q0 := q0.below hb3
  replace p0 := p0.below hb3
  replace q1 := q1.below hb3
  replace q2 := q2.below hb3
  clear hb3 hbel2
  simp only [HR.out] at q3 ⊢
  go_wp2_with fail
  refine (owner_lacks o ids _ _ who _ q1 p0).mono ?_
  rintro e w' ⟨rfl, rfl⟩
  rw [HLK.out]
  go_wp2_with fail
  refine (ref14_lacks o ids _ _ who _ q0 p0).mono ?_
  rintro e w' ⟨rfl, rfl⟩
  rw [HLK.out]
  go_wp2_with fail
  refine (own_lives _).mono ?_
  rintro e w4 ⟨rfl, hb4⟩
  have hbel4 := bstep hbel3 (Nat.le_refl _) hb4
  replace q0 := q0.below hb4
  replace p0 := p0.below hb4
  replace q1 := q1.below hb4
  replace q2 := q2.below hb4
  replace q3 := q3.below hb4
  clear hb4 hbel3
  go_wp2_with fail
  refine (ref03_same r1 r1 _ _ _ q2 q3).mono ?_
  rintro e w5 ⟨rfl, hb5⟩
  have hbel5 := bstep hbel4 (Nat.le_refl _) hb5
  replace q0 := q0.below hb5
  replace p0 := p0.below hb5
  replace q1 := q1.below hb5
  replace q2 := q2.below hb5
  replace q3 := q3.below hb5
  clear hb5 hbel4
  simp only [decide_true]
  clear q2 q3
  go_wp2_with fail
  refine (owner_of o _ who _ q1 (by omega)).mono ?_
  rintro e w6 ⟨⟨v4, rfl, q4⟩, hb6⟩
  have hbel6 := bstep hbel5 (Nat.le_refl _) hb6
  replace q0 := q0.below hb6
  replace p0 := p0.below hb6
  replace q1 := q1.below hb6
  clear hb6 hbel5
  go_wp2_with fail
  refine (ref14_of o _ who _ q0 (by omega)).mono ?_
  rintro e w7 ⟨⟨v5, rfl, q5⟩, hb7⟩
  have hbel7 := bstep hbel6 (Nat.le_refl _) hb7
  replace q0 := q0.below hb7
  replace p0 := p0.below hb7
  replace q1 := q1.below hb7
  replace q4 := q4.below hb7
  clear hb7 hbel6
  go_wp2_with fail
  refine (ref03_same (ofL o who) (ofL o who) _ _ _ q4 q5).mono ?_
  rintro e w8 ⟨rfl, hb8⟩
  have hbel8 := bstep hbel7 (Nat.le_refl _) hb8
  replace q0 := q0.below hb8
  replace p0 := p0.below hb8
  replace q1 := q1.below hb8
  replace q4 := q4.below hb8
  replace q5 := q5.below hb8
  clear hb8 hbel7
  simp only [decide_true]
  clear q4 q5
  go_wp2_with fail
  refine (ref03_same o o _ _ _ q1 q0).mono ?_
  rintro e w9 ⟨rfl, hb9⟩
  have hbel9 := bstep hbel8 (Nat.le_refl _) hb9
  replace q0 := q0.below hb9
  replace p0 := p0.below hb9
  replace q1 := q1.below hb9
  clear hb9 hbel8
  simp only [decide_true]
  go_wp2_with fail
  go_ret
  exact ⟨rfl, hbel9⟩

end Go.Proofs.Ytdpinfigjeafpaa
