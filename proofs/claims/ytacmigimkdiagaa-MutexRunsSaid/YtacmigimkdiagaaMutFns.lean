/- Walks of package mutex: what is asked of a table. -/
import Derived.Test.YtacmigimkdiagaaOwnFns
namespace Go.Proofs.Ytacmigimkdiagaa
open Go.RowKit
set_option linter.unusedVariables false
set_option linter.unusedSimpArgs false

theorem ownB_in (n : Int) : ownB n = (decide (0 ≤ n) && decide (n ≤ 8)) := by
  unfold ownB armN
  rw [Bool.eq_iff_iff]
  simp
  omega

set_option maxHeartbeats 400000 in
theorem mutex_bad (n : Int) (w : World) : Calls Try.prog 54 #[.int .i64 n] w fun e w' => e = .returned (.bool (!ownB n)) ∧ w = w' := by
  by_cases h0 : n < 0
  · have HE := Lib.hid (show true = !ownB n by rw [ownB_in, decide_eq_false (show ¬ 0 ≤ n by omega)]; rfl)
    go_enter Try.func54, Try.ntmps54
    go_wp2
    go_ret
    exact ⟨ret_bool HE.out, rfl⟩
  · by_cases h8 : 8 < n
    · have HE := Lib.hid (show true = !ownB n by rw [ownB_in, decide_eq_false (show ¬ n ≤ 8 by omega), Bool.and_false]; rfl)
      go_enter Try.func54, Try.ntmps54
      go_wp2
      go_ret
      exact ⟨ret_bool HE.out, rfl⟩
    · have HE := Lib.hid (show false = !ownB n by rw [ownB_in, decide_eq_true (show 0 ≤ n by omega), decide_eq_true (show n ≤ 8 by omega)]; rfl)
      go_enter Try.func54, Try.ntmps54
      go_wp2
      go_ret
      exact ⟨ret_bool HE.out, rfl⟩

set_option maxHeartbeats 400000 in
theorem mutex_right (l : List Int) (v : Value) (w : World) (hl : IntsAt w v l) : Calls Try.prog 31 #[v] w fun e w' => e = .returned (.bool (rightO l)) ∧ Below w.heap.size w w' := by
  obtain ⟨q, hq⟩ : ∃ q, (firstIdx (fun j => !ownB (l.getD j 0)) l.length).isSome = q := ⟨_, rfl⟩
  have HQ := Lib.hid hq
  clear hq
  go_enter Try.func31, Try.ntmps31
  go_wp2_with fail
  refine (slices_containsFunc 54 (enters Try.func54 (by kernel_rfl) rfl) #[] (fun n => !ownB n) l v w hl (fun j hj W hW => (mutex_bad _ W).mono fun e W' h => ⟨h.1, h.2 ▸ Below.refl _ _⟩)).mono ?_
  rintro e w1 ⟨rfl, hb⟩
  rw [HQ.out]
  go_wp2
  go_ret
  exact ⟨ret_bool (by rw [← HQ.out]; unfold rightO; cases firstIdx (fun j => !ownB (l.getD j 0)) l.length <;> rfl), hb⟩

/-- Has a table this id? -/
def heldB (t : List Int) (id : Int) : Bool := decide (0 ≤ id) && decide (id < t.length)
set_option maxHeartbeats 400000 in
theorem mutex_held (t : List Int) (v : Value) (id : Int) (w : World) (hl : IntsAt w v t) : Calls Try.prog 57 #[v, .int .i64 id] w fun e w' => e = .returned (.bool (heldB t id)) ∧ w = w' := by
  obtain ⟨a, ca, rfl, hl1, hl2, _⟩ := hl
  unfold maxLen at hl2
  by_cases h0 : 0 ≤ id
  · by_cases h1 : id < t.length
    · have HE := Lib.hid (show true = heldB t id by unfold heldB; rw [decide_eq_true h0, decide_eq_true h1]; rfl)
      go_enter Try.func57, Try.ntmps57
      go_wp2
      go_ret
      exact ⟨ret_bool HE.out, rfl⟩
    · have HE := Lib.hid (show false = heldB t id by unfold heldB; rw [decide_eq_true h0, decide_eq_false h1]; rfl)
      go_enter Try.func57, Try.ntmps57
      go_wp2
      go_ret
      exact ⟨ret_bool HE.out, rfl⟩
  · have HE := Lib.hid (show false = heldB t id by unfold heldB; rw [decide_eq_false h0]; rfl)
    go_enter Try.func57, Try.ntmps57
    go_wp2
    go_ret
    exact ⟨ret_bool HE.out, rfl⟩

set_option maxHeartbeats 400000 in
theorem ref17_right (l : List Int) (v : Value) (w : World) (hl : IntsAt w v l) : Calls Try.prog 32 #[v] w fun e w' => e = .returned (.bool (rightO l)) ∧ w = w' := by
  have HL := Lib.hid hl
  obtain ⟨a, ca, rfl, hl1, hl2, hl3, hl4⟩ := hl
  clear hl3 hl4
  unfold maxLen at hl2
  go_enter Try.func32, Try.ntmps32
  go_wp2
  go_loop [3] (fun i => ∃ k : Nat, k ≤ l.length ∧ i = .int .i64 k ∧ NoneYet (fun j => !ownB (l.getD j 0)) k) (fun i => l.length - (intOf i).toNat)
  case atStart => exact ⟨0, Nat.zero_le _, rfl, NoneYet.zero _⟩
  case round =>
    obtain ⟨k, hk, rfl, hs⟩ := hrel
    by_cases hlt : k < l.length
    · obtain ⟨b1, o1, rfl, hb1, c1⟩ := HL.out.get hlt
      obtain ⟨x, hx⟩ : ∃ x, l.getD k 0 = x := ⟨_, rfl⟩
      rw [hx] at c1
      have HX := Lib.hid hx
      clear hx
      by_cases h0 : x < 0
      · have HE := Lib.hid (show (!ownB (l.getD k 0)) = true by rw [HX.out, ownB_in, decide_eq_false (show ¬ 0 ≤ x by omega)]; rfl)
        go_wp2
        go_ret
        exact ⟨ret_bool (by unfold rightO; rw [firstIdx_some hs hlt HE.out]; rfl), rfl⟩
      · by_cases h8 : 8 < x
        · have HE := Lib.hid (show (!ownB (l.getD k 0)) = true by rw [HX.out, ownB_in, decide_eq_false (show ¬ x ≤ 8 by omega), Bool.and_false]; rfl)
          go_wp2
          go_ret
          exact ⟨ret_bool (by unfold rightO; rw [firstIdx_some hs hlt HE.out]; rfl), rfl⟩
        · have HE := Lib.hid (show (!ownB (l.getD k 0)) = false by rw [HX.out, ownB_in, decide_eq_true (show 0 ≤ x by omega), decide_eq_true (show x ≤ 8 by omega)]; rfl)
          go_wp2
          exact ⟨⟨k + 1, hlt, by go_num, hs.succ HE.out⟩, by simp [intOf]; omega⟩
    · obtain rfl : k = l.length := by omega
      go_wp2
      go_ret
      exact ⟨ret_bool (by unfold rightO; rw [firstIdx_none hs]; rfl), rfl⟩

end Go.Proofs.Ytacmigimkdiagaa
