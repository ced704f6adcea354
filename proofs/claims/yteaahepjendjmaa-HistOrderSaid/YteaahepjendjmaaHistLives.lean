/- The walk of law 19's lives: it returns true, and writes nothing that was there. -/
import Derived.Test.YteaahepjendjmaaHistOnce
import Derived.Deep.DrawnRows
namespace Go.Proofs.Yteaahepjendjmaa
open Go.RowKit
set_option linter.unusedVariables false
set_option linter.unusedSimpArgs false
attribute [local go_sem ↓] Go.wp_at_zero Go.wp_at_succ

def exH : List Ev := [⟨1, 1, 1, 1⟩, ⟨1, 2, 1, 2⟩, ⟨2, 2, 1, 3⟩, ⟨3, 2, 1, 4⟩, ⟨2, 1, 1, 5⟩, ⟨3, 1, 1, 6⟩]
theorem exH_right : rightB exH = true := by decide +kernel
theorem exH_mixed : mixN exH (onceL (callsE (isK 3) exH)) (onceL (callsE (isK 3) exH)).length = 1 := by decide +kernel
theorem exH_open : ((callsE (isK 1) (exH.take 4)).filter fun c => (firstE (isOf 3 c) (exH.take 4)).isNone) = [(1, 1)] := by decide +kernel
theorem exH_ahead : aheadB exH (1, 1) (2, 1) = false := by decide +kernel
theorem exH_len : exH.length ≤ 100000000 := by decide
theorem wfc_small {a b : Int} (ha : 0 ≤ a ∧ a ≤ 100) (hb : 0 ≤ b ∧ b ≤ 100) : WfC (a, b) := ⟨WalkArith.wf_i64 (by simp only; omega), WalkArith.wf_i64 (by simp only; omega)⟩
theorem exH_wf : ∀ e ∈ exH, WfC (ofE e) := by
  intro e he
  simp only [exH, List.mem_cons, List.not_mem_nil, or_false] at he
  rcases he with rfl | rfl | rfl | rfl | rfl | rfl <;> exact wfc_small (by decide) (by decide)
theorem wfc_list {o : List (Int × Int)} (h : o.all fun c => decide (0 ≤ c.1 ∧ c.1 ≤ 100 ∧ 0 ≤ c.2 ∧ c.2 ≤ 100)) : ∀ c ∈ o, WfC c := by
  intro c hc
  have := List.all_eq_true.1 h c hc
  simp only [decide_eq_true_eq] at this
  obtain ⟨c1, c2⟩ := c
  exact wfc_small ⟨this.1, this.2.1⟩ ⟨this.2.2.1, this.2.2.2⟩

theorem ex_fits1 (W : World) (u : Value) (hl : EvsAt W u exH) : Calls Try.prog 19 #[u, .slice (some ⟨W.heap.size, 0, none⟩) 2 2] (W.alloc (.cells #[.int .i64 1, .int .i64 1, .int .i64 2, .int .i64 1] 31)) fun r w' => r = .returned (.bool true) ∧ Below (W.alloc (.cells #[.int .i64 1, .int .i64 1, .int .i64 2, .int .i64 1] 31)).heap.size (W.alloc (.cells #[.int .i64 1, .int .i64 1, .int .i64 2, .int .i64 1] 31)) w' := by
  refine (hist_fits exH [(1, 1), (2, 1)] _ _ _ (hl.alloc _) (RowsAt.lit callRow_len _ _ [(1, 1), (2, 1)] (by simp [maxLen])) (by decide) (by decide) (wfc_list rfl) exH_wf).mono ?_
  rintro r w' ⟨rfl, hb⟩
  exact ⟨ret_bool (by decide +kernel), hb⟩
theorem ex_fits2 (W : World) (u : Value) (hl : EvsAt W u exH) : Calls Try.prog 19 #[u, .slice (some ⟨W.heap.size, 0, none⟩) 2 2] (W.alloc (.cells #[.int .i64 2, .int .i64 1, .int .i64 1, .int .i64 1] 31)) fun r w' => r = .returned (.bool true) ∧ Below (W.alloc (.cells #[.int .i64 2, .int .i64 1, .int .i64 1, .int .i64 1] 31)).heap.size (W.alloc (.cells #[.int .i64 2, .int .i64 1, .int .i64 1, .int .i64 1] 31)) w' := by
  refine (hist_fits exH [(2, 1), (1, 1)] _ _ _ (hl.alloc _) (RowsAt.lit callRow_len _ _ [(2, 1), (1, 1)] (by simp [maxLen])) (by decide) (by decide) (wfc_list rfl) exH_wf).mono ?_
  rintro r w' ⟨rfl, hb⟩
  exact ⟨ret_bool (by decide +kernel), hb⟩
theorem ex_fits3 (W : World) (u : Value) (hl : EvsAt W u exH) : Calls Try.prog 19 #[u, .slice (some ⟨W.heap.size, 0, none⟩) 1 1] (W.alloc (.cells #[.int .i64 1, .int .i64 1] 31)) fun r w' => r = .returned (.bool false) ∧ Below (W.alloc (.cells #[.int .i64 1, .int .i64 1] 31)).heap.size (W.alloc (.cells #[.int .i64 1, .int .i64 1] 31)) w' := by
  refine (hist_fits exH [(1, 1)] _ _ _ (hl.alloc _) (RowsAt.lit callRow_len _ _ [(1, 1)] (by simp [maxLen])) (by decide) (by decide) (wfc_list rfl) exH_wf).mono ?_
  rintro r w' ⟨rfl, hb⟩
  exact ⟨ret_bool (by decide +kernel), hb⟩
theorem ex_right (W : World) (u : Value) (hl : EvsAt W u exH) : Calls Try.prog 11 #[u] W fun r w' => r = .returned (.bool true) ∧ Below W.heap.size W w' := by
  refine (hist_right exH _ _ hl exH_len).mono ?_
  rintro r w' ⟨rfl, hb⟩
  exact ⟨ret_bool exH_right, hb⟩
theorem ex_mixed (W : World) (u : Value) (hl : EvsAt W u exH) : Calls Try.prog 34 #[u] W fun r w' => r = .returned (.int .i64 1) ∧ Below W.heap.size W w' := by
  refine (hist_mixed exH _ _ hl exH_len).mono ?_
  rintro r w' ⟨rfl, hb⟩
  exact ⟨by rw [exH_mixed]; rfl, hb⟩
theorem ex_before (W : World) (u : Value) (hl : EvsAt W u exH) : Calls Try.prog 20 #[u, .agg #[.int .i64 1, .int .i64 1], .agg #[.int .i64 2, .int .i64 1]] W fun r w' => r = .returned (.bool false) ∧ Below W.heap.size W w' := by
  refine (hist_before exH (1, 1) (2, 1) _ _ hl).mono ?_
  rintro r w' ⟨rfl, hb⟩
  exact ⟨ret_bool exH_ahead, hb⟩
theorem ex_open (W : World) (a : Option Addr) (c : Nat) (hl : EvsAt W (.slice a 6 c) exH) : Calls Try.prog 17 #[.slice a 4 c] W fun r w' => (∃ a c, r = .returned (.slice a 1 c)) ∧ Below W.heap.size W w' := by
  refine (hist_open (exH.take 4) _ _ (RowsAt.front hl 4 (by decide)) (by decide)).mono ?_
  rintro r w' ⟨⟨v, rfl, hv⟩, hb⟩
  rw [exH_open] at hv
  obtain ⟨a', c', rfl, _⟩ := hv
  exact ⟨⟨a', c', rfl⟩, hb⟩

set_option maxHeartbeats 4000000 in
set_option maxRecDepth 100000 in
theorem hist_lives (w : World) : Calls Try.prog 10 #[] w fun r w' => r = .returned (.bool true) ∧ Below w.heap.size w w' := by
  go_enter Try.func10, Try.ntmps10
  go_wp2_with fail
  obtain ⟨W0, hW0⟩ : ∃ W0, ((w.alloc (.cells #[.int .i64 1, .int .i64 1, .int .i64 1, .int .i64 1, .int .i64 1, .int .i64 2, .int .i64 1, .int .i64 2, .int .i64 2, .int .i64 2, .int .i64 1, .int .i64 3, .int .i64 3, .int .i64 2, .int .i64 1, .int .i64 4, .int .i64 2, .int .i64 1, .int .i64 1, .int .i64 5, .int .i64 3, .int .i64 1, .int .i64 1, .int .i64 6] 48)).alloc (.cells #[.int .i64 1, .int .i64 1] 31)).alloc (.cells #[.int .i64 2, .int .i64 1] 31) = W0 := ⟨_, rfl⟩
  have hl0 : EvsAt W0 (.slice (some ⟨w.heap.size, 0, none⟩) 6 6) exH := by rw [← hW0]; exact ((RowsAt.lit evRow_len _ _ exH (by simp [exH, maxLen])).alloc _).alloc _
  have a0 : W0.cell? ⟨w.heap.size + 1, 0, none⟩ = some (.int .i64 1) := by rw [← hW0]; simp [go_sem]
  have a1 : W0.cell? ⟨w.heap.size + 1, 1, none⟩ = some (.int .i64 1) := by rw [← hW0]; simp [go_sem]
  have b0 : W0.cell? ⟨w.heap.size + 1 + 1, 0, none⟩ = some (.int .i64 2) := by rw [← hW0]; simp [go_sem]
  have b1 : W0.cell? ⟨w.heap.size + 1 + 1, 1, none⟩ = some (.int .i64 1) := by rw [← hW0]; simp [go_sem]
  have hs0 : w.heap.size + 1 + 1 < W0.heap.size := by rw [← hW0]; simp
  have hbw : Below w.heap.size w W0 := by rw [← hW0]; exact (((Below.refl _ _).alloc (Nat.le_refl _) _).alloc (by simp) _).alloc (by simp; omega) _
  rw [hW0]
  clear hW0
  refine (hist_done exH _ _ hl0 (by decide)).mono ?_
  rintro r w1 ⟨⟨v1, rfl, h1⟩, hb1⟩
  rw [show callsE (isK 2) exH = [(2, 1), (1, 1)] from by decide +kernel] at h1
  replace hl0 := hl0.below hb1
  obtain ⟨hc1, hf1⟩ := bcell hb1
  rw [← hc1 _ _ (by omega)] at a0 a1 b0 b1
  clear hc1 hf1
  obtain ⟨av, cv, rfl, hv1, hv2, hv3, hv4⟩ := id h1
  clear hv3 hv4
  unfold maxLen at hv2
  simp only [List.length_cons, List.length_nil, Nat.zero_add, Nat.reduceAdd] at h1 hv1 ⊢
  go_wp2_with fail
  refine (hist_told exH _ _ hl0 (by decide)).mono ?_
  rintro r w2 ⟨⟨v2, rfl, h2⟩, hb2⟩
  rw [show callsE (isK 3) exH = [(2, 1), (1, 1)] from by decide +kernel] at h2
  replace hl0 := hl0.below hb2
  replace h1 := h1.below hb2
  have hs1 := hb1.size
  obtain ⟨hc1, hf1⟩ := bcell hb2
  rw [← hc1 _ _ (by omega)] at a0 a1 b0 b1
  clear hc1 hf1
  obtain ⟨aw, cw, rfl, hw1, hw2, hw3, hw4⟩ := id h2
  clear hw3 hw4
  unfold maxLen at hw2
  simp only [List.length_cons, List.length_nil, Nat.zero_add, Nat.reduceAdd] at h2 hw1 ⊢
  have hs2 := hb2.size
  have hbel2 : Below w.heap.size w w2 := bstep (bstep hbw (Nat.le_refl _) (hb1.mono (by omega))) (Nat.le_refl _) (hb2.mono (by omega))
  clear hb1 hb2 hbw h2
  obtain ⟨bd, od, cd, hbo, hbd, hkd, d0, d1⟩ := CallsAt.get2 (k := 0) h1 (by decide)
  simp only [List.getElem?_cons_zero, Option.some.injEq] at hkd
  subst hkd
  subst hbo
  simp only [Nat.zero_mul, Nat.add_zero] at d0 d1
  have hl0' := Lib.hid hl0
  clear hl0 h1
  have hcv : (0 : Int) < cv := by omega
  have hA1 : w.heap.size + 1 < w2.heap.size := by omega
  have hA2 : w.heap.size + 1 + 1 < w2.heap.size := by omega
  go_wp2
  go_region_held3 (fun w' => Below w2.heap.size w2 w' ∧ (∀ b o, b < w2.heap.size → w'.cell? ⟨b, o, none⟩ = w2.cell? ⟨b, o, none⟩) ∧ ∀ b o, b < w2.heap.size → w'.frozen? ⟨b, o, none⟩ = w2.frozen? ⟨b, o, none⟩)
    (first | exact Keeps.atDraw _ | exact hB | exact Keeps.new hB _ | exact Keeps.new (by assumption) _)
    (first
      | (go_at_call 11; refine (ex_right _ _ (hl0'.out.below (Keeps.bel (by assumption)))).mono ?_; rintro r w1 ⟨rfl, hb⟩; have hB := Keeps.call hb (by assumption))
      | (go_at_call 34; refine (ex_mixed _ _ (hl0'.out.below (Keeps.bel (by assumption)))).mono ?_; rintro r w1 ⟨rfl, hb⟩; have hB := Keeps.call hb (by assumption))
      | (go_at_call 20; refine (ex_before _ _ (hl0'.out.below (Keeps.bel (by assumption)))).mono ?_; rintro r w1 ⟨rfl, hb⟩; have hB := Keeps.call hb (by assumption))
      | (go_at_call 17; refine (ex_open _ _ _ (hl0'.out.below (Keeps.bel (by assumption)))).mono ?_; rintro r w1 ⟨⟨ao, co, rfl⟩, hb⟩; have hB := Keeps.call hb (by assumption))
      | (go_at_call 19; (with_reducible refine (ex_fits1 _ _ (hl0'.out.below (Keeps.bel (by assumption)))).mono ?_); rintro r w1 ⟨rfl, hb⟩; have hB := Keeps.call hb (by assumption))
      | (go_at_call 19; (with_reducible refine (ex_fits2 _ _ (hl0'.out.below (Keeps.bel (by assumption)))).mono ?_); rintro r w1 ⟨rfl, hb⟩; have hB := Keeps.call hb (by assumption))
      | (go_at_call 19; (with_reducible refine (ex_fits3 _ _ (hl0'.out.below (Keeps.bel (by assumption)))).mono ?_); rintro r w1 ⟨rfl, hb⟩; have hB := Keeps.call hb (by assumption)))
  go_wp2
  go_ret
  exact ⟨rfl, bstep hbel2 (Nat.le_refl _) (hB.1.mono (by omega))⟩

end Go.Proofs.Yteaahepjendjmaa
