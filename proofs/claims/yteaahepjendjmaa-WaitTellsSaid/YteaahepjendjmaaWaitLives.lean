/- The walk of law 34's lives: it returns true, and writes nothing that was there. -/
import Derived.Test.YteaahepjendjmaaWaitRest2
namespace Go.Proofs.Yteaahepjendjmaa
open Go.RowKit
set_option linter.unusedVariables false
set_option linter.unusedSimpArgs false

def exW : List Ev := [⟨1, 1, 1, 1⟩, ⟨1, 2, 1, 2⟩, ⟨2, 2, 1, 3⟩, ⟨3, 2, 1, 4⟩, ⟨2, 1, 1, 5⟩, ⟨3, 1, 1, 6⟩, ⟨1, 2, 2, 9⟩]
theorem wf_small (a : Int) (ha : 0 ≤ a ∧ a ≤ 100) : (Lit.int .i64 a).wf = true := WalkArith.wf_i64 (by omega)
theorem exW_wf : ∀ e ∈ exW, WfE e := by
  intro e he
  simp only [exW, List.mem_cons, List.not_mem_nil, or_false] at he
  rcases he with rfl | rfl | rfl | rfl | rfl | rfl | rfl <;> exact ⟨wf_small _ (by decide), wf_small _ (by decide), wf_small _ (by decide), wf_small _ (by decide)⟩
theorem exW_len : exW.length ≤ 100000000 := by decide
theorem exW_waits : waitsL exW = [⟨2, 1, 1, 1⟩, ⟨1, 1, 4, 1⟩] := by decide +kernel
theorem exw_open (W : World) (u : Value) (hl : EvsAt W u exW) : Calls Try.prog 28 #[u] W fun r w' => r = .returned (.int .i64 2) ∧ Below W.heap.size W w' := by
  refine (wait_open exW _ _ hl exW_len).mono ?_
  rintro r w' ⟨rfl, hb⟩
  exact ⟨ret_int (by decide +kernel), hb⟩
theorem exw_over (W : World) (u : Value) (hl : EvsAt W u exW) : Calls Try.prog 30 #[u, .agg #[.int .i64 1, .int .i64 1]] W fun r w' => r = .returned (.int .i64 1) ∧ Below W.heap.size W w' := by
  refine (wait_overtaken exW _ (1, 1) _ hl exW_len exW_wf ⟨wf_small _ (by decide), wf_small _ (by decide)⟩).mono ?_
  rintro r w' ⟨rfl, hb⟩
  exact ⟨ret_int (by decide +kernel), hb⟩
theorem exw_rest (W : World) (u : Value) (hl : EvsAt W u exW) : Calls Try.prog 32 #[u, .int .i64 2] W fun r w' => r = .returned (.int .i64 5) ∧ Below W.heap.size W w' := by
  refine (wait_rest exW _ 2 _ hl exW_len exW_wf (wf_small _ (by decide))).mono ?_
  rintro r w' ⟨rfl, hb⟩
  exact ⟨ret_int (by decide +kernel), hb⟩
theorem exw_waits (W : World) (u : Value) (hl : EvsAt W u exW) : Calls Try.prog 22 #[u] W fun r w' => GivesWaits W [⟨2, 1, 1, 1⟩, ⟨1, 1, 4, 1⟩] r w' := by
  have := wait_waits exW _ _ hl exW_len exW_wf
  rwa [exW_waits] at this
theorem exw_longest (W : World) (u : Value) (hl : EvsAt W u exW) : Calls Try.prog 24 #[u] W fun r w' => r = .returned (.tuple #[.agg #[.int .i64 1, .int .i64 1, .int .i64 4, .int .i64 1], .bool true]) ∧ Below W.heap.size W w' := by
  refine (wait_longest exW _ _ hl exW_len exW_wf).mono ?_
  rintro r w' ⟨rfl, hb⟩
  rw [exW_waits]
  exact ⟨rfl, hb⟩
theorem exw_sum (W : World) (u : Value) (hl : EvsAt W u exW) : Calls Try.prog 26 #[u, .int .i64 1] W fun r w' => r = .returned (.tuple #[.int .i64 4, .int .i64 1]) ∧ Below W.heap.size W w' := by
  refine (wait_sum exW _ 1 _ hl exW_len exW_wf).mono ?_
  rintro r w' ⟨rfl, hb⟩
  rw [exW_waits]
  exact ⟨ret_ii (by decide +kernel) (by decide +kernel), hb⟩

set_option maxHeartbeats 4000000 in
set_option maxRecDepth 100000 in
theorem wait_lives (w : World) : Calls Try.prog 21 #[] w fun r w' => r = .returned (.bool true) ∧ Below w.heap.size w w' := by
  go_enter Try.func21, Try.ntmps21
  go_wp2_with fail
  obtain ⟨W0, hW0⟩ : ∃ W0, w.alloc (.cells #[.int .i64 1, .int .i64 1, .int .i64 1, .int .i64 1, .int .i64 1, .int .i64 2, .int .i64 1, .int .i64 2, .int .i64 2, .int .i64 2, .int .i64 1, .int .i64 3, .int .i64 3, .int .i64 2, .int .i64 1, .int .i64 4, .int .i64 2, .int .i64 1, .int .i64 1, .int .i64 5, .int .i64 3, .int .i64 1, .int .i64 1, .int .i64 6, .int .i64 1, .int .i64 2, .int .i64 2, .int .i64 9] 48) = W0 := ⟨_, rfl⟩
  have hl0 : EvsAt W0 (.slice (some ⟨w.heap.size, 0, none⟩) 7 7) exW := by rw [← hW0]; exact RowsAt.lit evRow_len _ _ exW (by simp [exW, maxLen])
  have hs0 : w.heap.size < W0.heap.size := by rw [← hW0]; simp
  have hbw : Below w.heap.size w W0 := by rw [← hW0]; exact (Below.refl _ _).alloc (Nat.le_refl _) _
  rw [hW0]
  clear hW0
  refine (exw_waits _ _ hl0).mono ?_
  rintro r w1 ⟨⟨v1, rfl, h1, _⟩, hb1⟩
  have hbel1 := bstep hbw (by omega) hb1
  replace hl0 := hl0.below hb1
  obtain ⟨av, cv, rfl, hv1, hv2, hv3, hv4⟩ := id h1
  clear hv3 hv4 hb1 hbw
  unfold maxLen at hv2
  simp only [List.length_cons, List.length_nil, Nat.zero_add, Nat.reduceAdd] at h1 hv1 ⊢
  go_wp2_with fail
  refine (exw_longest _ _ hl0).mono ?_
  rintro r w2 ⟨rfl, hb2⟩
  have hbel2 := bstep hbel1 (by omega) hb2
  replace hl0 := (hl0.below hb2).alloc (.cells #[.int .i64 1, .int .i64 1, .int .i64 4, .int .i64 1] 37)
  replace h1 := h1.below hb2
  clear hb2 hbel1
  go_wp2_with fail
  have hx : WtBox (w2.alloc (.cells #[.int .i64 1, .int .i64 1, .int .i64 4, .int .i64 1] 37)) w2.heap.size ⟨1, 1, 4, 1⟩ := by constructor <;> simp [go_sem]
  refine (exw_sum _ _ hl0).mono ?_
  rintro r w3 ⟨rfl, hb3⟩
  have hbel3 := bstep1 hbel2 (by omega) hb3
  replace hl0 := hl0.below hb3
  replace h1 := (h1.alloc _).below hb3
  replace hx := hx.below hb3
  have hs3 : w2.heap.size < w3.heap.size := by have := hb3.size; simp at this; omega
  clear hb3 hbel2
  obtain ⟨bd, od, cd, hbo, hbd, hkd, d0, d1, d2, d3⟩ := WaitsAt.get4 (k := 0) h1 (by decide)
  simp only [List.getElem?_cons_zero, Option.some.injEq] at hkd
  subst hkd
  obtain ⟨be, oe, ce, hbe, hbd', hke, e0, e1, e2, e3⟩ := WaitsAt.get4 (k := 1) h1 (by decide)
  simp only [List.getElem?_cons_zero, List.getElem?_cons_succ, Option.some.injEq] at hke
  subst hke
  subst hbo
  simp only [Option.some.injEq, Addr.mk.injEq] at hbe
  obtain ⟨rfl, rfl, _⟩ := hbe
  simp only [Nat.zero_mul, Nat.add_zero, Nat.one_mul] at d0 d1 d2 d3 e0 e1 e2 e3
  obtain ⟨g0, g1, g2, g3, f0, f1, f2, f3⟩ := hx
  have HL := Lib.hid hl0
  have hcv : (0 : Int) < cv := by omega
  have hcv1 : (1 : Int) < cv := by omega
  clear hl0 h1 f0 f1 f2 f3
  go_wp2
  refine wp_region_lex (fun w' => Below w3.heap.size w3 w' ∧ (∀ b o, b < w3.heap.size → w'.cell? ⟨b, o, none⟩ = w3.cell? ⟨b, o, none⟩) ∧ ∀ b o, b < w3.heap.size → w'.frozen? ⟨b, o, none⟩ = w3.frozen? ⟨b, o, none⟩) (by kernel_rfl) (by kernel_rfl) (Keeps.atDraw _) ?_
  repeat (first
    | (apply Lex.take
       · rfl
       · (intro w' hS; go_simp; first
           | exact ⟨rfl, hS⟩
           | (apply StepsTo.enter; (with_reducible apply Calls.mono (exw_open _ _ (HL.out.below hS.1))); rintro r w5 ⟨rfl, hb⟩; exact ⟨rfl, Keeps.call hb hS⟩)
           | (apply StepsTo.enter; (with_reducible apply Calls.mono (exw_over _ _ (HL.out.below hS.1))); rintro r w5 ⟨rfl, hb⟩; exact ⟨rfl, Keeps.call hb hS⟩)
           | (apply StepsTo.enter; (with_reducible apply Calls.mono (exw_rest _ _ (HL.out.below hS.1))); rintro r w5 ⟨rfl, hb⟩; exact ⟨rfl, Keeps.call hb hS⟩))
       simp only [Act.put, List.setIfInBounds_toArray, List.set_cons_zero, List.set_cons_succ]))
  refine Lex.nil ?_
  intro w' hS
  obtain ⟨hbW, _, _⟩ := hS
  go_wp2
  go_ret
  exact ⟨rfl, bstep hbel3 (Nat.le_refl _) (hbW.mono (by omega))⟩

end Go.Proofs.Yteaahepjendjmaa
