/- Walks of the reference of package mutex: Lock, Unlock; what an arm holds, in both. -/
import Derived.Test.YtacmigimkdiagaaMutLock
namespace Go.Proofs.Ytacmigimkdiagaa
open Go.RowKit
set_option linter.unusedVariables false
set_option linter.unusedSimpArgs false

/-- What a lock and an unlock give, by what is asked. -/
theorem lockT_may (t : List Int) (id who : Int) :
    lockT t id who = if mayT t id who ≠ 0 then ([], mayT t id who) else if t.getD id.toNat 0 = who then ([], 171) else if t.getD id.toNat 0 ≠ 0 then ([], 170) else (t.set id.toNat who, 0) := by
  unfold lockT whoseT mayT
  generalize t.getD id.toNat 0 = x
  by_cases h1 : rightO t = false ∨ who < 1 ∨ 8 < who
  · simp [h1]
  · by_cases h2 : heldB t id = false
    · simp [h1, h2]
    · simp only [if_neg h1, if_neg h2]
      by_cases h3 : x = who
      · simp [h3]
      · by_cases h4 : x = 0
        · subst h4
          simp [h3]
        · simp [h3, h4]
theorem unlockT_may (t : List Int) (id who : Int) :
    unlockT t id who = if mayT t id who ≠ 0 then ([], mayT t id who) else if t.getD id.toNat 0 ≠ who then ([], 172) else (t.set id.toNat 0, 0) := by
  unfold unlockT whoseT mayT
  generalize t.getD id.toNat 0 = x
  by_cases h1 : rightO t = false ∨ who < 1 ∨ 8 < who
  · simp [h1]
  · by_cases h2 : heldB t id = false
    · simp [h1, h2]
    · simp only [if_neg h1, if_neg h2]
      by_cases h3 : x = who
      · simp [h3]
      · by_cases h4 : x = 0
        · subst h4
          simp [h3]
        · simp [h3, h4]
theorem mayT_ok {t : List Int} {id who : Int} (h0 : mayT t id who = 0) : ∃ k : Nat, id = (k : Int) ∧ k < t.length := by
  unfold mayT at h0
  split at h0
  · simp at h0
  · split at h0
    · simp at h0
    · rename_i h1
      exact heldB_ids (by simpa using h1)

set_option maxHeartbeats 800000 in
theorem ref17_lock (t : List Int) (v : Value) (id who : Int) (w : World) (hl : IntsAt w v t) (hlen : t.length ≤ 100000000) :
    Calls Try.prog 29 #[v, .int .i64 id, .int .i64 who] w fun e w' => GivesT w (lockT t id who) e w' := by
  have HL := Lib.hid hl
  obtain ⟨a, ca, rfl, hl1, hl2, hl3, hl4⟩ := hl
  clear hl3 hl4
  unfold maxLen at hl2
  obtain ⟨er, hW⟩ : ∃ er, mayT t id who = er := ⟨_, rfl⟩
  have hT := lockT_may t id who
  rw [hW] at hT
  have HT := Lib.hid hT
  have HW := Lib.hid hW
  clear hT
  cases her : (er != 0) with
  | true =>
    have HE := Lib.hid (show lockT t id who = ([], er) by rw [HT.out, if_pos (by simpa using her)])
    go_enter Try.func29, Try.ntmps29
    go_wp2_with fail
    refine (ref17_may t _ id who _ HL.out).mono ?_
    rintro e w1 ⟨rfl, rfl⟩
    rw [hW]
    clear hW
    go_wp2
    go_ret2
    rw [HE.out]
    exact ⟨⟨_, rfl, IntsAt.nil _⟩, Below.refl _ _⟩
  | false =>
    have her0 : er = 0 := by simpa using her
    subst her0
    obtain ⟨k, rfl, hk⟩ := mayT_ok hW
    clear her
    obtain ⟨b1, o1, rfl, hb1, c1⟩ := HL.out.get hk
    obtain ⟨x, hx⟩ : ∃ x, t.getD k 0 = x := ⟨_, rfl⟩
    rw [hx] at c1
    have HX := Lib.hid hx
    clear hx hW
    have HT2 := Lib.hid (show lockT t k who = if x = who then ([], 171) else if x ≠ 0 then ([], 170) else (t.set k who, 0) by rw [HT.out, if_neg (by simp), Int.toNat_natCast, HX.out])
    clear HT
    cases h1 : (x == who) with
    | true =>
      have HE := Lib.hid (show lockT t k who = ([], 171) by rw [HT2.out, if_pos (by simpa using h1)])
      go_enter Try.func29, Try.ntmps29
      go_wp2_with fail
      refine (ref17_may t _ k who _ HL.out).mono ?_
      rintro e w1 ⟨rfl, rfl⟩
      rw [HW.out]
      go_wp2
      go_ret2
      rw [HE.out]
      exact ⟨⟨_, rfl, IntsAt.nil _⟩, Below.refl _ _⟩
    | false =>
      cases h2 : (x != 0) with
      | true =>
        have HE := Lib.hid (show lockT t k who = ([], 170) by rw [HT2.out, if_neg (by simpa using h1), if_pos (by simpa using h2)])
        go_enter Try.func29, Try.ntmps29
        go_wp2_with fail
        refine (ref17_may t _ k who _ HL.out).mono ?_
        rintro e w1 ⟨rfl, rfl⟩
        rw [HW.out]
        go_wp2
        go_ret2
        rw [HE.out]
        exact ⟨⟨_, rfl, IntsAt.nil _⟩, Below.refl _ _⟩
      | false =>
        have HE := Lib.hid (show lockT t k who = (t.set k who, 0) by rw [HT2.out, if_neg (by simpa using h1), if_neg (by simpa using h2)])
        go_enter Try.func29, Try.ntmps29
        go_wp2_with fail
        refine (ref17_may t _ k who _ HL.out).mono ?_
        rintro e w1 ⟨rfl, rfl⟩
        rw [HW.out]
        go_wp2_with fail
        refine (ref17_put t _ k who _ HL.out hk hlen).mono ?_
        rintro e w2 ⟨⟨v2, rfl, q2⟩, hb2⟩
        have Q2 := Lib.hid q2
        clear q2
        go_wp2
        go_ret2
        rw [HE.out]
        exact ⟨⟨_, rfl, Q2.out⟩, hb2⟩

set_option maxHeartbeats 800000 in
theorem ref17_unlock (t : List Int) (v : Value) (id who : Int) (w : World) (hl : IntsAt w v t) (hlen : t.length ≤ 100000000) :
    Calls Try.prog 30 #[v, .int .i64 id, .int .i64 who] w fun e w' => GivesT w (unlockT t id who) e w' := by
  have HL := Lib.hid hl
  obtain ⟨a, ca, rfl, hl1, hl2, hl3, hl4⟩ := hl
  clear hl3 hl4
  unfold maxLen at hl2
  obtain ⟨er, hW⟩ : ∃ er, mayT t id who = er := ⟨_, rfl⟩
  have hT := unlockT_may t id who
  rw [hW] at hT
  have HT := Lib.hid hT
  have HW := Lib.hid hW
  clear hT
  cases her : (er != 0) with
  | true =>
    have HE := Lib.hid (show unlockT t id who = ([], er) by rw [HT.out, if_pos (by simpa using her)])
    go_enter Try.func30, Try.ntmps30
    go_wp2_with fail
    refine (ref17_may t _ id who _ HL.out).mono ?_
    rintro e w1 ⟨rfl, rfl⟩
    rw [hW]
    clear hW
    go_wp2
    go_ret2
    rw [HE.out]
    exact ⟨⟨_, rfl, IntsAt.nil _⟩, Below.refl _ _⟩
  | false =>
    have her0 : er = 0 := by simpa using her
    subst her0
    obtain ⟨k, rfl, hk⟩ := mayT_ok hW
    clear her
    obtain ⟨b1, o1, rfl, hb1, c1⟩ := HL.out.get hk
    obtain ⟨x, hx⟩ : ∃ x, t.getD k 0 = x := ⟨_, rfl⟩
    rw [hx] at c1
    have HX := Lib.hid hx
    clear hx hW
    have HT2 := Lib.hid (show unlockT t k who = if x ≠ who then ([], 172) else (t.set k 0, 0) by rw [HT.out, if_neg (by simp), Int.toNat_natCast, HX.out])
    clear HT
    cases h1 : (x != who) with
    | true =>
      have HE := Lib.hid (show unlockT t k who = ([], 172) by rw [HT2.out, if_pos (by simpa using h1)])
      go_enter Try.func30, Try.ntmps30
      go_wp2_with fail
      refine (ref17_may t _ k who _ HL.out).mono ?_
      rintro e w1 ⟨rfl, rfl⟩
      rw [HW.out]
      go_wp2
      go_ret2
      rw [HE.out]
      exact ⟨⟨_, rfl, IntsAt.nil _⟩, Below.refl _ _⟩
    | false =>
      have HE := Lib.hid (show unlockT t k who = (t.set k 0, 0) by rw [HT2.out, if_neg (by simpa using h1)])
      go_enter Try.func30, Try.ntmps30
      go_wp2_with fail
      refine (ref17_may t _ k who _ HL.out).mono ?_
      rintro e w1 ⟨rfl, rfl⟩
      rw [HW.out]
      go_wp2_with fail
      refine (ref17_put t _ k 0 _ HL.out hk hlen).mono ?_
      rintro e w2 ⟨⟨v2, rfl, q2⟩, hb2⟩
      have Q2 := Lib.hid q2
      clear q2
      go_wp2
      go_ret2
      rw [HE.out]
      exact ⟨⟨_, rfl, Q2.out⟩, hb2⟩

end Go.Proofs.Ytacmigimkdiagaa
