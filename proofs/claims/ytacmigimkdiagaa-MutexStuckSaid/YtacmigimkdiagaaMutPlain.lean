/- Where waits are ordered, nobody is stuck: the plain law. -/
import Derived.Test.YtacmigimkdiagaaMutStuck
import Derived.Test.YtacmigimkdiagaaMutOrd
namespace Go.Proofs.Ytacmigimkdiagaa
open Go.RowKit
set_option linter.unusedVariables false
set_option linter.unusedSimpArgs false

/-- Some least set of arms, always. -/
theorem least_from (t ws : List Int) : ∀ (n : Nat) (F : List Bool), offN F ≤ n → Below9 t ws F → ∃ G, Least t ws G := by
  intro n
  induction n with
  | zero =>
    intro F hn hF
    refine ⟨F, hF.least ?_⟩
    by_cases he : onT t ws F = F
    · exact he
    · have := offN_lt hF.1 (onT_length t ws F) (onT_within t ws hF.1) he
      omega
  | succ n ih =>
    intro F hn hF
    by_cases he : onT t ws F = F
    · exact ⟨F, hF.least he⟩
    · have := offN_lt hF.1 (onT_length t ws F) (onT_within t ws hF.1) he
      exact ih _ (by omega) hF.on
theorem least_some (t ws : List Int) : ∃ G, Least t ws G := least_from t ws _ _ (Nat.le_refl _) (below9_none t ws)
noncomputable def leastF (t ws : List Int) : List Bool := (least_some t ws).choose
theorem leastF_is (t ws : List Int) : Least t ws (leastF t ws) := (least_some t ws).choose_spec
/-- Who is stuck. -/
noncomputable def stuckL (t ws : List Int) : List Int := if rightO t = true ∧ ws.length ≤ 8 then stuckOf (leastF t ws) else []
theorem stuckL_of {t ws : List Int} {w w' : World} {e : Ending} (h : GivesStuck t ws w e w') : GivesInts w (stuckL t ws) e w' := by
  unfold GivesStuck at h
  unfold stuckL
  by_cases hc : rightO t = true ∧ ws.length ≤ 8
  · rw [if_pos hc] at h ⊢
    obtain ⟨F, hF, hg⟩ := h
    rw [← hF.uniq (leastF_is t ws)]
    exact hg
  · rw [if_neg hc] at h ⊢
    exact h

/-- An arm that is stuck waits for an id that is had by one who is stuck. -/
theorem stuck_waits {t ws : List Int} {F : List Bool} (hr : rightO t = true) (hF : Closed t ws F) {i : Nat} (h1 : 1 ≤ i) (h8 : i ≤ 8) (hn : F.getD i false = false) :
    i ≤ ws.length ∧ ∃ q x : Nat, ws.getD (i - 1) 0 = q ∧ q < t.length ∧ t.getD q 0 = x ∧ 1 ≤ x ∧ x ≤ 8 ∧ F.getD x false = false := by
  have hf : freeB t ws F i = false := by
    cases h : freeB t ws F i
    · rfl
    · have := hF i h1 h8 h
      rw [hn] at this
      cases this
  unfold freeB at hf
  rw [Bool.or_eq_false_iff, Bool.or_eq_false_iff, Bool.or_eq_false_iff] at hf
  obtain ⟨⟨⟨a1, a2⟩, a3⟩, a4⟩ := hf
  have hh : heldB t (ws.getD (i - 1) 0) = true := by simpa using a2
  obtain ⟨q, hq, hql⟩ := heldB_ids hh
  obtain ⟨x, hx, hx8⟩ := right_in hr hql
  rw [hq, Int.toNat_natCast, hx] at a3 a4
  rw [Int.toNat_natCast] at a4
  refine ⟨by have := of_decide_eq_false a1; omega, q, x, hq, hql, hx, ?_, hx8, a4⟩
  have : ¬ (x : Int) = 0 := by simpa using a3
  omega
/-- Ordered waits: whom an arm that is stuck waits for waits for a greater id. -/
theorem no_stuck {t ws : List Int} {F : List Bool} (ho : orderedB t ws = true) (hF : Closed t ws F) : ∀ (n i q : Nat), t.length ≤ n + q → 1 ≤ i → i ≤ 8 → F.getD i false = false → ws.getD (i - 1) 0 = (q : Int) → q < t.length → False := by
  have hparts : rightO t = true ∧ (firstIdx (badAt t ws) ws.length).isNone = true := by
    unfold orderedB at ho
    rw [Bool.and_eq_true, Bool.and_eq_true] at ho
    exact ⟨ho.1.1, ho.2⟩
  obtain ⟨hr, hnb⟩ := hparts
  have hbad := firstIdx_none_spec (Option.isNone_iff_eq_none.1 hnb)
  intro n
  induction n with
  | zero =>
    intro i q hn h1 h8 hf hw hq
    omega
  | succ n ih =>
    intro i q hn h1 h8 hf hw hq
    obtain ⟨_, q', x, hq', hql, hx, hx1, hx8, hfx⟩ := stuck_waits hr hF h1 h8 hf
    obtain rfl : q' = q := by rw [hw] at hq'; omega
    obtain ⟨hxl, q2, x2, hq2, hql2, _, _, _, _⟩ := stuck_waits hr hF hx1 hx8 hfx
    have hb := hbad (x - 1) (by omega)
    unfold badAt at hb
    rw [hq2, Int.toNat_natCast, Bool.and_eq_false_iff] at hb
    have hlt : q' < q2 := by
      rcases hb with hb | hb
      · unfold heldB at hb
        simp at hb
        omega
      · rw [decide_eq_false_iff_not, mem_dropD] at hb
        refine Nat.lt_of_not_le fun hle => hb ⟨q', hle, hql, ?_⟩
        rw [hx]
        omega
    exact ih x q2 (by omega) hx1 hx8 hfx hq2 hql2
theorem stuckL_ordered {t ws : List Int} (ho : orderedB t ws = true) : stuckL t ws = [] := by
  have hr : rightO t = true ∧ ws.length ≤ 8 := by
    unfold orderedB at ho
    rw [Bool.and_eq_true, Bool.and_eq_true] at ho
    exact ⟨ho.1.1, of_decide_eq_true ho.1.2⟩
  unfold stuckL
  rw [if_pos hr]
  have hF := (leastF_is t ws).2
  apply List.eq_nil_iff_forall_not_mem.2
  intro x hx
  obtain ⟨i, rfl, h1, h8, hf⟩ := mem_stuckOf.1 hx
  obtain ⟨_, q, x, hq, hql, _⟩ := stuck_waits hr.1 hF h1 h8 hf
  exact no_stuck ho hF t.length i q (by omega) h1 h8 hf hq hql

end Go.Proofs.Ytacmigimkdiagaa
