/- Walks of package mutex: a table with another holder. -/
import Derived.Test.YtacmigimkdiagaaMutWhose
namespace Go.Proofs.Ytacmigimkdiagaa
open Go.RowKit
set_option linter.unusedVariables false
set_option linter.unusedSimpArgs false

set_option maxHeartbeats 800000 in
theorem mutex_put (t : List Int) (v : Value) (k : Nat) (who : Int) (w : World) (hl : IntsAt w v t) (hk : k < t.length) (hlen : t.length ≤ 100000000) :
    Calls Try.prog 50 #[v, .int .i64 k, .int .i64 who] w fun e w' => GivesInts w (t.set k who) e w' := by
  go_enter Try.func50, Try.ntmps50
  go_wp2_with fail
  refine (slices_clone t _ _ hl hlen).mono ?_
  rintro e w5 ⟨⟨v5, rfl, hown5⟩, hb5⟩
  have HV := Lib.hid hown5
  rcases hown5.shape with ⟨rfl, h0⟩ | ⟨g, cap, rfl, hgB, hgs⟩
  · exfalso
    have := List.length_eq_zero_iff.2 h0
    omega
  · clear hown5
    have hc := OwnInts.cellAt HV.out (j := k) hk
    have hp := OwnInts.put HV.out k who
    have HP := Lib.hid hp
    obtain ⟨hc1, hc2⟩ := hc
    clear hp
    go_wp2
    go_ret
    refine ⟨⟨_, rfl, ?_⟩, hb5.setCell hgB _⟩
    have h2 := OwnInts.ints HP.out
    rw [List.length_set] at h2
    exact h2

set_option maxHeartbeats 800000 in
theorem ref17_put (t : List Int) (v : Value) (k : Nat) (who : Int) (w : World) (hl : IntsAt w v t) (hk : k < t.length) (hlen : t.length ≤ 100000000) :
    Calls Try.prog 52 #[v, .int .i64 k, .int .i64 who] w fun e w' => GivesInts w (t.set k who) e w' := by
  have HL := Lib.hid hl
  clear hl
  go_enter Try.func52, Try.ntmps52
  go_wp2_with (at_builtin; refine wpList_append_ints rfl (.tmp 8) (.tmp 9) rfl w.heap.size _ [] rfl (own_empty _ _ (Nat.le_refl _)) _ t rfl (HL.out.alloc _) ?_ ?_ ?_)
  · simp
    omega
  · simp
  intro v5 w5 hown5 hg5 hb5
  have HV := Lib.hid hown5
  have hbel5 : Below w.heap.size w w5 := ((Below.refl _ _).alloc (Nat.le_refl _) _).trans hb5
  rcases hown5.shape with ⟨rfl, h0⟩ | ⟨g, cap, rfl, hgB, hgs⟩
  · exfalso
    have := List.length_eq_zero_iff.2 h0
    omega
  · clear hown5 hg5 hb5
    have hc := OwnInts.cellAt HV.out (j := k) hk
    have hp := OwnInts.put HV.out k who
    have HP := Lib.hid hp
    obtain ⟨hc1, hc2⟩ := hc
    clear hp
    go_wp2
    go_ret
    refine ⟨⟨_, rfl, ?_⟩, hbel5.setCell hgB _⟩
    have h2 := OwnInts.ints HP.out
    rw [List.length_set] at h2
    exact h2

/-- May it be asked? -/
def mayT (t : List Int) (id who : Int) : Int := if rightO t = false ∨ who < 1 ∨ 8 < who then 1 else if heldB t id = false then 3 else 0
set_option maxHeartbeats 800000 in
theorem ref17_may (t : List Int) (v : Value) (id who : Int) (w : World) (hl : IntsAt w v t) :
    Calls Try.prog 51 #[v, .int .i64 id, .int .i64 who] w fun e w' => e = .returned (.int .i64 (mayT t id who)) ∧ w = w' := by
  have HL := Lib.hid hl
  obtain ⟨a, ca, rfl, hl1, hl2, _⟩ := hl
  unfold maxLen at hl2
  cases hr : rightO t with
  | false =>
    have HE := Lib.hid (show 1 = mayT t id who by unfold mayT; rw [if_pos (.inl hr)])
    go_enter Try.func51, Try.ntmps51
    go_wp2_with fail
    refine (ref17_right t _ _ HL.out).mono ?_
    rintro e w1 ⟨rfl, rfl⟩
    rw [hr]
    go_wp2
    go_ret
    exact ⟨ret_int HE.out, rfl⟩
  | true =>
    by_cases hw : who < 1 ∨ 8 < who
    · have HE := Lib.hid (show 1 = mayT t id who by unfold mayT; rw [if_pos (.inr hw)])
      go_enter Try.func51, Try.ntmps51
      go_wp2_with fail
      refine (ref17_right t _ _ HL.out).mono ?_
      rintro e w1 ⟨rfl, rfl⟩
      rw [hr]
      rcases hw with h1 | h1
      all_goals
        go_wp2
        go_ret
        exact ⟨ret_int HE.out, rfl⟩
    · have hw1 : ¬ who < 1 := fun h => hw (.inl h)
      have hw8 : ¬ 8 < who := fun h => hw (.inr h)
      by_cases h0 : id < 0
      · have HE := Lib.hid (show 3 = mayT t id who by unfold mayT heldB; rw [if_neg (by rw [hr]; simpa using hw), if_pos (by simp; omega)])
        go_enter Try.func51, Try.ntmps51
        go_wp2_with fail
        refine (ref17_right t _ _ HL.out).mono ?_
        rintro e w1 ⟨rfl, rfl⟩
        rw [hr]
        go_wp2
        go_ret
        exact ⟨ret_int HE.out, rfl⟩
      · by_cases h1 : id < t.length
        · have HE := Lib.hid (show 0 = mayT t id who by unfold mayT heldB; rw [if_neg (by rw [hr]; simpa using hw), if_neg (by simp; omega)])
          go_enter Try.func51, Try.ntmps51
          go_wp2_with fail
          refine (ref17_right t _ _ HL.out).mono ?_
          rintro e w1 ⟨rfl, rfl⟩
          rw [hr]
          go_wp2
          go_ret
          exact ⟨ret_int HE.out, rfl⟩
        · have HE := Lib.hid (show 3 = mayT t id who by unfold mayT heldB; rw [if_neg (by rw [hr]; simpa using hw), if_pos (by simp; omega)])
          go_enter Try.func51, Try.ntmps51
          go_wp2_with fail
          refine (ref17_right t _ _ HL.out).mono ?_
          rintro e w1 ⟨rfl, rfl⟩
          rw [hr]
          go_wp2
          go_ret
          exact ⟨ret_int HE.out, rfl⟩

end Go.Proofs.Ytacmigimkdiagaa
