/- Walks of package mutex: Lock, Unlock, and their references. -/
import Derived.Test.YtacmigimkdiagaaMutPut
namespace Go.Proofs.Ytacmigimkdiagaa
open Go.RowKit
set_option linter.unusedVariables false
set_option linter.unusedSimpArgs false

theorem whoseT_ok {t : List Int} {id who : Int} {x er : Int} (h : whoseT t id who = (x, er)) (h0 : er = 0) : ∃ k : Nat, id = (k : Int) ∧ k < t.length := by
  subst h0
  unfold whoseT at h
  split at h
  · simp at h
  · split at h
    · simp at h
    · rename_i h1
      exact heldB_ids (by simpa using h1)
theorem whoseT_in {t : List Int} {id who : Int} {x er : Int} (h : whoseT t id who = (x, er)) : x = 0 ∨ x = 1 ∨ x = 2 := by
  unfold whoseT at h
  repeat' split at h
  all_goals (simp only [Prod.mk.injEq] at h; omega)
/-- What a lock gives. -/
def lockT (t : List Int) (id who : Int) : List Int × Int :=
  if (whoseT t id who).2 ≠ 0 then ([], (whoseT t id who).2) else if (whoseT t id who).1 = 1 then ([], 171) else if (whoseT t id who).1 = 2 then ([], 170) else (t.set id.toNat who, 0)
/-- What a call gives that gives a table and what is wrong. -/
def GivesT (w : World) (R : List Int × Int) (e : Ending) (w' : World) : Prop := (∃ v, e = .returned (.tuple #[v, .int .i64 R.2]) ∧ IntsAt w' v R.1) ∧ Below w.heap.size w w'

set_option maxHeartbeats 800000 in
theorem mutex_lock (t : List Int) (v : Value) (id who : Int) (w : World) (hl : IntsAt w v t) (hlen : t.length ≤ 100000000) :
    Calls Try.prog 27 #[v, .int .i64 id, .int .i64 who] w fun e w' => GivesT w (lockT t id who) e w' := by
  have HL := Lib.hid hl
  clear hl
  obtain ⟨x, er, hW⟩ : ∃ x er, whoseT t id who = (x, er) := ⟨_, _, rfl⟩
  have HW := Lib.hid hW
  have hin := whoseT_in hW
  go_enter Try.func27, Try.ntmps27
  go_wp2_with fail
  refine (mutex_whose t v id who _ HL.out).mono ?_
  rintro e w1 ⟨rfl, hb⟩
  rw [hW]
  simp only [pairV]
  have HL1 := Lib.hid (HL.out.below hb)
  cases her : (er != 0) with
  | true =>
    have HE := Lib.hid (show lockT t id who = ([], er) by unfold lockT; rw [HW.out, if_pos (by simpa using her)])
    clear hW hin
    go_wp2
    go_ret2
    rw [HE.out]
    exact ⟨⟨_, rfl, IntsAt.nil _⟩, hb⟩
  | false =>
    have her0 : er = 0 := by simpa using her
    obtain ⟨k, rfl, hk⟩ := whoseT_ok hW her0
    have HER := Lib.hid her0
    clear her0 hW
    rcases hin with rfl | rfl | rfl
    · have HE := Lib.hid (show lockT t k who = (t.set k who, 0) by unfold lockT; rw [HW.out]; simp only; rw [if_neg (by rw [HER.out]; simp), if_neg (by decide), if_neg (by decide), Int.toNat_natCast])
      go_wp2_with fail
      refine (mutex_put t v k who _ HL1.out hk hlen).mono ?_
      rintro e w2 ⟨⟨v2, rfl, q2⟩, hb2⟩
      have Q2 := Lib.hid q2
      clear q2
      go_wp2
      go_ret2
      rw [HE.out]
      exact ⟨⟨_, rfl, Q2.out⟩, bstep hb (Nat.le_refl _) hb2⟩
    · have HE := Lib.hid (show lockT t k who = ([], 171) by unfold lockT; rw [HW.out]; simp only; rw [if_neg (by rw [HER.out]; simp)]; rfl)
      go_wp2
      go_ret2
      rw [HE.out]
      exact ⟨⟨_, rfl, IntsAt.nil _⟩, hb⟩
    · have HE := Lib.hid (show lockT t k who = ([], 170) by unfold lockT; rw [HW.out]; simp only; rw [if_neg (by rw [HER.out]; simp)]; rfl)
      go_wp2
      go_ret2
      rw [HE.out]
      exact ⟨⟨_, rfl, IntsAt.nil _⟩, hb⟩

/-- What an unlock gives. -/
def unlockT (t : List Int) (id who : Int) : List Int × Int :=
  if (whoseT t id who).2 ≠ 0 then ([], (whoseT t id who).2) else if (whoseT t id who).1 ≠ 1 then ([], 172) else (t.set id.toNat 0, 0)
set_option maxHeartbeats 800000 in
theorem mutex_unlock (t : List Int) (v : Value) (id who : Int) (w : World) (hl : IntsAt w v t) (hlen : t.length ≤ 100000000) :
    Calls Try.prog 28 #[v, .int .i64 id, .int .i64 who] w fun e w' => GivesT w (unlockT t id who) e w' := by
  have HL := Lib.hid hl
  clear hl
  obtain ⟨x, er, hW⟩ : ∃ x er, whoseT t id who = (x, er) := ⟨_, _, rfl⟩
  have HW := Lib.hid hW
  have hin := whoseT_in hW
  go_enter Try.func28, Try.ntmps28
  go_wp2_with fail
  refine (mutex_whose t v id who _ HL.out).mono ?_
  rintro e w1 ⟨rfl, hb⟩
  rw [hW]
  simp only [pairV]
  have HL1 := Lib.hid (HL.out.below hb)
  cases her : (er != 0) with
  | true =>
    have HE := Lib.hid (show unlockT t id who = ([], er) by unfold unlockT; rw [HW.out, if_pos (by simpa using her)])
    clear hW hin
    go_wp2
    go_ret2
    rw [HE.out]
    exact ⟨⟨_, rfl, IntsAt.nil _⟩, hb⟩
  | false =>
    have her0 : er = 0 := by simpa using her
    obtain ⟨k, rfl, hk⟩ := whoseT_ok hW her0
    have HER := Lib.hid her0
    clear her0 hW
    cases hx : (x != 1) with
    | true =>
      have HE := Lib.hid (show unlockT t k who = ([], 172) by unfold unlockT; rw [HW.out]; simp only; rw [if_neg (by rw [HER.out]; simp), if_pos (by simpa using hx)])
      clear hin
      go_wp2
      go_ret2
      rw [HE.out]
      exact ⟨⟨_, rfl, IntsAt.nil _⟩, hb⟩
    | false =>
      have HE := Lib.hid (show unlockT t k who = (t.set k 0, 0) by unfold unlockT; rw [HW.out]; simp only; rw [if_neg (by rw [HER.out]; simp), if_neg (by simpa using hx), Int.toNat_natCast])
      clear hin
      go_wp2_with fail
      refine (mutex_put t v k 0 _ HL1.out hk hlen).mono ?_
      rintro e w2 ⟨⟨v2, rfl, q2⟩, hb2⟩
      have Q2 := Lib.hid q2
      clear q2
      go_wp2
      go_ret2
      rw [HE.out]
      exact ⟨⟨_, rfl, Q2.out⟩, bstep hb (Nat.le_refl _) hb2⟩

end Go.Proofs.Ytacmigimkdiagaa
