/- Walks of package mutex: whose a mutex is. -/
import Derived.Test.YtacmigimkdiagaaMutFns
namespace Go.Proofs.Ytacmigimkdiagaa
open Go.RowKit
set_option linter.unusedVariables false
set_option linter.unusedSimpArgs false

/-- Whose a mutex is, and what is wrong. -/
def whoseT (t : List Int) (id who : Int) : Int × Int :=
  if rightO t = false ∨ who < 1 ∨ 8 < who then (0, 1) else if heldB t id = false then (0, 3) else if t.getD id.toNat 0 = who then (1, 0) else if t.getD id.toNat 0 = 0 then (0, 0) else (2, 0)
def pairV (x : Int × Int) : Value := .tuple #[.int .i64 x.1, .int .i64 x.2]
theorem heldB_ids {t : List Int} {id : Int} (h : heldB t id = true) : ∃ k : Nat, id = (k : Int) ∧ k < t.length := by
  unfold heldB at h
  simp at h
  exact ⟨id.toNat, by omega, by omega⟩

set_option maxHeartbeats 800000 in
theorem mutex_whose (t : List Int) (v : Value) (id who : Int) (w : World) (hl : IntsAt w v t) :
    Calls Try.prog 49 #[v, .int .i64 id, .int .i64 who] w fun e w' => e = .returned (pairV (whoseT t id who)) ∧ Below w.heap.size w w' := by
  have HL := Lib.hid hl
  cases hr : rightO t with
  | false =>
    have HE := Lib.hid (show (0, 1) = whoseT t id who by unfold whoseT; rw [if_pos (.inl hr)])
    go_enter Try.func49, Try.ntmps49
    go_wp2_with fail
    refine (mutex_right t v _ HL.out).mono ?_
    rintro e w1 ⟨rfl, hb⟩
    rw [hr]
    go_wp2
    go_ret2
    rw [← HE.out]
    exact ⟨rfl, hb⟩
  | true =>
    by_cases hw : who < 1 ∨ 8 < who
    · have HE := Lib.hid (show (0, 1) = whoseT t id who by unfold whoseT; rw [if_pos (.inr hw)])
      go_enter Try.func49, Try.ntmps49
      go_wp2_with fail
      refine (mutex_right t v _ HL.out).mono ?_
      rintro e w1 ⟨rfl, hb⟩
      rw [hr]
      rcases hw with h1 | h1
      all_goals
        go_wp2
        go_ret2
        rw [← HE.out]
        exact ⟨rfl, hb⟩
    · have hw1 : ¬ who < 1 := fun h => hw (.inl h)
      have hw8 : ¬ 8 < who := fun h => hw (.inr h)
      cases hh : heldB t id with
      | false =>
        have HE := Lib.hid (show (0, 3) = whoseT t id who by unfold whoseT; rw [if_neg (by rw [hr]; simpa using hw), if_pos hh])
        go_enter Try.func49, Try.ntmps49
        go_wp2_with fail
        refine (mutex_right t v _ HL.out).mono ?_
        rintro e w1 ⟨rfl, hb⟩
        rw [hr]
        go_wp2_with fail
        refine (mutex_held t v id _ (HL.out.below hb)).mono ?_
        rintro e w2 ⟨rfl, rfl⟩
        rw [hh]
        go_wp2
        go_ret2
        rw [← HE.out]
        exact ⟨rfl, hb⟩
      | true =>
        obtain ⟨k, rfl, hk⟩ := heldB_ids hh
        obtain ⟨a, ca, rfl, hl1, hl2, _⟩ := id hl
        unfold maxLen at hl2
        obtain ⟨x, hx⟩ : ∃ x, t.getD k 0 = x := ⟨_, rfl⟩
        have HX := Lib.hid hx
        have hW : whoseT t k who = if x = who then (1, 0) else if x = 0 then (0, 0) else (2, 0) := by
          unfold whoseT
          rw [if_neg (by rw [hr]; simpa using hw), if_neg (by rw [hh]; simp), Int.toNat_natCast, hx]
        have HW := Lib.hid hW
        clear hx hW
        have hcell : ∀ w1, Below w.heap.size w w1 → ∃ b1 o1, a = some ⟨b1, o1, none⟩ ∧ b1 < w1.heap.size ∧ w1.cell? ⟨b1, o1 + k, none⟩ = some (.int .i64 x) := by
          intro w1 hb
          obtain ⟨b1, o1, ha, hb1, c1⟩ := (HL.out.below hb).get hk
          exact ⟨b1, o1, ha, hb1, by rw [c1, HX.out]⟩
        have HC := Lib.hid hcell
        clear hcell
        cases hxw : (x == who) with
        | true =>
          have HE := Lib.hid (show (1, 0) = whoseT t k who by rw [HW.out, if_pos (by simpa using hxw)])
          go_enter Try.func49, Try.ntmps49
          go_wp2_with fail
          refine (mutex_right t _ _ HL.out).mono ?_
          rintro e w1 ⟨rfl, hb⟩
          rw [hr]
          obtain ⟨b1, o1, rfl, hb1, c1⟩ := HC.out _ hb
          go_wp2_with fail
          refine (mutex_held t _ k _ (HL.out.below hb)).mono ?_
          rintro e w2 ⟨rfl, rfl⟩
          rw [hh]
          go_wp2
          go_ret2
          rw [← HE.out]
          exact ⟨rfl, hb⟩
        | false =>
          cases hx0 : (x == 0) with
          | true =>
            have HE := Lib.hid (show (0, 0) = whoseT t k who by rw [HW.out, if_neg (by simpa using hxw), if_pos (by simpa using hx0)])
            go_enter Try.func49, Try.ntmps49
            go_wp2_with fail
            refine (mutex_right t _ _ HL.out).mono ?_
            rintro e w1 ⟨rfl, hb⟩
            rw [hr]
            obtain ⟨b1, o1, rfl, hb1, c1⟩ := HC.out _ hb
            go_wp2_with fail
            refine (mutex_held t _ k _ (HL.out.below hb)).mono ?_
            rintro e w2 ⟨rfl, rfl⟩
            rw [hh]
            go_wp2
            go_ret2
            rw [← HE.out]
            exact ⟨rfl, hb⟩
          | false =>
            have HE := Lib.hid (show (2, 0) = whoseT t k who by rw [HW.out, if_neg (by simpa using hxw), if_neg (by simpa using hx0)])
            go_enter Try.func49, Try.ntmps49
            go_wp2_with fail
            refine (mutex_right t _ _ HL.out).mono ?_
            rintro e w1 ⟨rfl, hb⟩
            rw [hr]
            obtain ⟨b1, o1, rfl, hb1, c1⟩ := HC.out _ hb
            go_wp2_with fail
            refine (mutex_held t _ k _ (HL.out.below hb)).mono ?_
            rintro e w2 ⟨rfl, rfl⟩
            rw [hh]
            go_wp2
            go_ret2
            rw [← HE.out]
            exact ⟨rfl, hb⟩

end Go.Proofs.Ytacmigimkdiagaa
