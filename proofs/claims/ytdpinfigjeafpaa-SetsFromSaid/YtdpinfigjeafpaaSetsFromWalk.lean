/- Walks of SetsFrom: each returns true, and writes nothing that was there. -/
import Derived.Test.YtdpinfigjeafpaaSetWalks
namespace Go.Proofs.Ytdpinfigjeafpaa
open Go.RowKit
set_option linter.unusedVariables false
set_option linter.unusedSimpArgs false

theorem from_take_len (l : List Int) : ∀ k, k ≤ l.length → (((l.take k).foldl putL []).length ≤ k ∧ (((l.take k).foldl putL []).length = k ↔ NoneYet (twiceAt l) k)) := by
  intro k
  induction k with
  | zero => intro _; exact ⟨by simp, by simp; exact NoneYet.zero _⟩
  | succ k ih =>
    intro hk
    obtain ⟨h1, h2⟩ := ih (by omega)
    rw [foldl_take_snoc l [] k hk, putL_len_mem (foldl_putL_rise _ List.Pairwise.nil)]
    have hmem : l.getD k 0 ∈ (l.take k).foldl putL [] ↔ l.getD k 0 ∈ l.take k := by rw [mem_foldl_putL]; simp
    by_cases hm : l.getD k 0 ∈ l.take k
    · rw [if_pos (hmem.2 hm)]
      refine ⟨by omega, ⟨fun h => by omega, fun h => ?_⟩⟩
      have := h k (Nat.lt_succ_self k)
      simp [twiceAt] at this
      exact absurd (by simpa using hm) this
    · rw [if_neg (fun h => hm (hmem.1 h))]
      refine ⟨by omega, ⟨fun h => (h2.1 (by omega)).succ (by unfold twiceAt; simpa using hm), fun h => ?_⟩⟩
      have := h2.2 (fun j hj => h j (by omega))
      omega
theorem from_twice (l : List Int) : ((((fromL l).length : Int) == (l.length : Int)) == (twiceI l == -1)) = true := by
  have h := (from_take_len l l.length (Nat.le_refl _)).2
  rw [List.take_length] at h
  change (fromL l).length = l.length ↔ _ at h
  unfold twiceI
  cases hf : firstIdx (twiceAt l) l.length with
  | none =>
    have := h.2 (firstIdx_none_spec hf)
    simp [this]
  | some k =>
    obtain ⟨h1, h2, h3⟩ := firstIdx_spec hf
    have hne : (fromL l).length ≠ l.length := fun e => by
      have := h.1 e k h1
      rw [h2] at this
      simp at this
    have e1 : (((fromL l).length : Int) == (l.length : Int)) = false := by rw [beq_eq_false_iff_ne]; omega
    have e2 : ((k : Int) == -1) = false := by rw [beq_eq_false_iff_ne]; omega
    rw [e1, e2]
    rfl

set_option maxHeartbeats 400000 in
theorem sets_from_law (l : List Int) (v : Value) (n : Int) (w : World) (hl : IntsAt w v l) (hwf : Wfs l) : Calls Try.prog 10 #[v, .int .i64 n] w fun e w' => e = .returned (.bool true) ∧ Below w.heap.size w w' := by
  obtain ⟨a, ca, rfl, _⟩ := id hl
  have hl2 : l.length ≤ 9223372036854775807 := by obtain ⟨_, _, h, h1, h2, _⟩ := hl; unfold maxLen at h2; omega
  by_cases hlen : 200 < l.length
  · go_enter Try.func10, Try.ntmps10
    go_wp2_with fail
    refine (sets_lives _).mono ?_
    rintro e w1 ⟨rfl, hb1⟩
    go_wp2
    go_ret
    exact ⟨rfl, hb1⟩
  · have q0 := hl
    have HR := Lib.hid (fromL_rise l)
    have HM := Lib.hid (show ∀ n, decide (n ∈ fromL l) = decide (n ∈ l) from fun n => by rw [Bool.eq_iff_iff, decide_eq_true_iff, decide_eq_true_iff, mem_fromL])
    have HF := Lib.hid (from_twice l)
    go_enter Try.func10, Try.ntmps10
    go_wp2_with fail
    refine (sets_from l _ _ q0 (by omega)).mono ?_
    rintro e w1 ⟨⟨v1, rfl, q1⟩, hb1⟩
    have hbel1 : Below w.heap.size w w1 := hb1
    replace q0 := q0.below hb1
    clear hb1
    go_wp2_with fail
    refine (sets_lives _).mono ?_
    rintro e w2 ⟨rfl, hb2⟩
    have hbel2 := bstep hbel1 (Nat.le_refl _) hb2
    replace q0 := q0.below hb2
    replace q1 := q1.below hb2
    clear hb2 hbel1
    go_wp2_with fail
    refine (ref04_from l _ _ q0 (by omega)).mono ?_
    rintro e w3 ⟨⟨v2, rfl, q2⟩, hb3⟩
    have hbel3 := bstep hbel2 (Nat.le_refl _) hb3
    replace q0 := q0.below hb3
    replace q1 := q1.below hb3
    clear hb3 hbel2
    go_wp2_with fail
    refine (ref03_same (fromL l) (fromL l) _ _ _ q1 q2).mono ?_
    rintro e w4 ⟨rfl, hb4⟩
    have hbel4 := bstep hbel3 (Nat.le_refl _) hb4
    replace q0 := q0.below hb4
    replace q1 := q1.below hb4
    replace q2 := q2.below hb4
    clear hb4 hbel3
    simp only [decide_true]
    clear q2
    go_wp2_with fail
    refine (sets_right l _ _ q0).mono ?_
    rintro e w5 ⟨rfl, hb5⟩
    have hbel5 := bstep hbel4 (Nat.le_refl _) hb5
    replace q0 := q0.below hb5
    replace q1 := q1.below hb5
    clear hb5 hbel4
    go_wp2_with fail
    refine (ref04_right l _ _ q0).mono ?_
    rintro e w6 ⟨rfl, hb6⟩
    have hbel6 := bstep hbel5 (Nat.le_refl _) hb6
    replace q0 := q0.below hb6
    replace q1 := q1.below hb6
    clear hb6 hbel5
    go_wp2_with fail
    refine (sets_right (fromL l) _ _ q1).mono ?_
    rintro e w7 ⟨rfl, hb7⟩
    have hbel7 := bstep hbel6 (Nat.le_refl _) hb7
    replace q0 := q0.below hb7
    replace q1 := q1.below hb7
    clear hb7 hbel6
    simp only [HR.out]
    go_wp2_with fail
    refine (sets_twice l _ _ q0 hwf (by omega)).mono ?_
    rintro e w8 ⟨rfl, hb8⟩
    have hbel8 := bstep hbel7 (Nat.le_refl _) hb8
    replace q0 := q0.below hb8
    replace q1 := q1.below hb8
    clear hb8 hbel7
    go_wp2_with fail
    refine (ref04_twice l _ _ q0).mono ?_
    rintro e w9 ⟨rfl, hb9⟩
    have hbel9 := bstep hbel8 (Nat.le_refl _) hb9
    replace q0 := q0.below hb9
    replace q1 := q1.below hb9
    clear hb9 hbel8
    go_wp2_with fail
    refine (sets_has (fromL l) _ _ _ q1 HR.out).mono ?_
    rintro e w' ⟨rfl, rfl⟩
    simp only [HM.out n]
    go_wp2_with fail
    refine (ref04_in l _ _ _ q0).mono ?_
    rintro e w' ⟨rfl, rfl⟩
    obtain ⟨a1, c1, rfl, _⟩ := id q1
    go_wp2_with fail
    have Q0 := Lib.hid q0
    have Q1 := Lib.hid q1
    clear q0 q1
    go_loop [6] (fun i => ∃ k : Nat, k ≤ l.length ∧ i = .int .i64 k) (fun i => l.length - (intOf i).toNat)
    case atStart => exact ⟨0, Nat.zero_le _, rfl⟩
    case round =>
      obtain ⟨k, hk, rfl⟩ := hrel
      by_cases hlt : k < l.length
      · obtain ⟨b2, o2, rfl, hb2, c2⟩ := Q0.out.get hlt
        obtain ⟨x, hx⟩ : ∃ x, l.getD k 0 = x := ⟨_, rfl⟩
        rw [hx] at c2
        have HX := Lib.hid hx
        clear hx
        go_wp2_with fail
        refine (sets_has (fromL l) _ _ _ Q1.out HR.out).mono ?_
        rintro e w' ⟨rfl, rfl⟩
        rw [HM.out x, show decide (x ∈ l) = true from by rw [decide_eq_true_iff, ← HX.out]; simp [hlt]]
        go_wp2
        exact ⟨⟨k + 1, hlt, by go_num⟩, by simp [intOf]; omega⟩
      · go_wp2_with fail
        refine (ref04_twice l _ _ Q0.out).mono ?_
        rintro e w10 ⟨rfl, hb⟩
        have hbel10 := bstep hbel9 (Nat.le_refl _) hb
        clear hb hbel9
        go_wp2_with fail
        go_ret
        exact ⟨ret_bool HF.out, hbel10⟩

end Go.Proofs.Ytdpinfigjeafpaa
