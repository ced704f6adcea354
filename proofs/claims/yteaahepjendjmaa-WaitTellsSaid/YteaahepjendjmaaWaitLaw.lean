/- The walks of the statements of law 34: each returns true, and writes nothing that was there. -/
import Derived.Test.YteaahepjendjmaaWaitLives
import Derived.Test.YteaahepjendjmaaWaitPlain
namespace Go.Proofs.Yteaahepjendjmaa
open Go.RowKit
set_option linter.unusedVariables false
set_option linter.unusedSimpArgs false

set_option maxHeartbeats 4000000 in
set_option maxRecDepth 100000 in
theorem wait_tells_law (l : List Ev) (v : Value) (who : Int) (w : World) (hl : EvsAt w v l) (hwf : ∀ e ∈ l, WfE e) :
    Calls Try.prog 6 #[v, .int .i64 who] w fun r w' => r = .returned (.bool true) ∧ Below w.heap.size w w' := by
  obtain ⟨a, ca, rfl, hl1, hl2, _⟩ := id hl
  unfold maxLen at hl2
  have q0 := Lib.hid hl
  have HW := Lib.hid hwf
  clear hl hwf
  by_cases hg : 200 < l.length
  · go_enter Try.func6, Try.ntmps6
    go_wp2_with fail
    refine (wait_lives _).mono ?_
    rintro e w1 ⟨rfl, hb1⟩
    go_wp2
    go_ret
    exact ⟨rfl, hb1⟩
  have hlen : l.length ≤ 100000000 := by omega
  have hle := waitsL_le l
  go_enter Try.func6, Try.ntmps6
  go_wp2_with fail
  refine (wait_waits l _ _ q0.out hlen HW.out).mono ?_
  rintro e w1 ⟨⟨v1, rfl, h1, _⟩, hb1⟩
  replace q0 := Lib.hid (q0.out.below hb1)
  go_wp2_with fail
  refine (ref34_waits l _ _ q0.out hlen HW.out).mono ?_
  rintro e w2 ⟨⟨v2, rfl, h2, _⟩, hb2⟩
  have hbel2 := bstep hb1 (Nat.le_refl _) hb2
  replace q0 := Lib.hid (q0.out.below hb2)
  replace h1 := h1.below hb2
  go_wp2_with fail
  refine (wait_lives _).mono ?_
  rintro e w3 ⟨rfl, hb3⟩
  have hbel3 := bstep hbel2 (Nat.le_refl _) hb3
  replace q0 := Lib.hid (q0.out.below hb3)
  replace h1 := h1.below hb3
  replace h2 := h2.below hb3
  have H1 := Lib.hid h1
  have H2 := Lib.hid h2
  obtain ⟨a1, c1, rfl, hm1, hm2, hm3, hm4⟩ := h1
  obtain ⟨a2, c2, rfl, hn1, hn2, hn3, hn4⟩ := h2
  unfold maxLen at hm2 hn2
  clear hm3 hm4 hn3 hn4 hb1 hb2 hb3 hbel2
  go_wp2
  go_loopw [7] (fun i wr => ∃ k : Nat, k ≤ (waitsL l).length ∧ i = .int .i64 k ∧ Below w3.heap.size w3 wr) (fun i _ => (waitsL l).length - (intOf i).toNat)
  case atStart => exact ⟨0, Nat.zero_le _, rfl, Below.refl _ _⟩
  case round =>
    obtain ⟨k, hk, rfl, hbel⟩ := hrel
    by_cases hlt : k < (waitsL l).length
    · obtain ⟨b1, o1, x, rfl, hb1, hkx, e0, e1, e2, e3⟩ := WaitsAt.get4 H1.out hlt
      obtain ⟨b2, o2, y, rfl, hb2, hky, g0, g1, g2, g3⟩ := WaitsAt.get4 H2.out hlt
      rw [hkx] at hky
      cases hky
      rw [← hbel.cell (p := ⟨b1, _, none⟩) hb1] at e0 e1 e2 e3
      rw [← hbel.cell (p := ⟨b2, _, none⟩) hb2] at g0 g1 g2 g3
      have i0 : (0 : Int) ≤ (k : Int) := by omega
      have i1 : (k : Int) < (waitsL l).length := by omega
      have hsame : sameW ⟨x.w, x.n, x.a, x.b⟩ ⟨x.w, x.n, x.a, x.b⟩ = true := (sameW_iff _ _).2 rfl
      clear hkx
      go_wp2
      go_quiet (fail)
      go_wp2
      exact ⟨⟨k + 1, hlt, by go_num, below_drewN hbel _⟩, by simp [intOf]; omega⟩
    · obtain rfl : k = (waitsL l).length := by omega
      obtain ⟨B, hB⟩ : ∃ B, bestL (waitsL l) = B := ⟨_, rfl⟩
      obtain ⟨D, hD⟩ : ∃ D, sumL who (waitsL l) = D := ⟨_, rfl⟩
      have HB := Lib.hid hB
      have HD := Lib.hid hD
      obtain ⟨B1, B2, B3, B4⟩ := B
      obtain ⟨D1, D2⟩ := D
      have hsame : sameW ⟨B1, B2, B3, B4⟩ ⟨B1, B2, B3, B4⟩ = true := (sameW_iff _ _).2 rfl
      have HSAME := Lib.hid hsame
      replace q0 := Lib.hid (q0.out.below hbel)
      have hbelr := bstep hbel3 (Nat.le_refl _) hbel
      clear hB hD hsame
      go_wp2_with fail
      refine (wait_longest l _ _ q0.out hlen HW.out).mono ?_
      rintro e w4 ⟨rfl, hb4⟩
      have hbel4 := bstep hbelr (Nat.le_refl _) hb4
      replace q0 := Lib.hid ((q0.out.below hb4).alloc (.cells #[.int .i64 B1, .int .i64 B2, .int .i64 B3, .int .i64 B4] 37))
      rw [HB.out]
      have hbs : ∃ bb, (!sameW (⟨B1, B2, B3, B4⟩ : Wt) ⟨0, 0, 0, 0⟩) = bb := ⟨_, rfl⟩
      obtain ⟨bb, hbb⟩ := hbs
      have HBB := Lib.hid hbb
      rw [hbb]
      clear hbb
      have hx : WtBox (w4.alloc (.cells #[.int .i64 B1, .int .i64 B2, .int .i64 B3, .int .i64 B4] 37)) w4.heap.size ⟨B1, B2, B3, B4⟩ := by constructor <;> simp [go_sem]
      have hsx : w4.heap.size < (w4.alloc (.cells #[.int .i64 B1, .int .i64 B2, .int .i64 B3, .int .i64 B4] 37)).heap.size := by simp
      have HX := Lib.hid hx
      clear hx
      go_wp2_with fail
      refine (ref34_longest l _ _ q0.out hlen HW.out).mono ?_
      rintro e w5 ⟨rfl, hb5⟩
      have hbel5 := bstep1 hbel4 (Nat.le_refl _) hb5
      replace q0 := Lib.hid ((q0.out.below hb5).alloc (.cells #[.int .i64 B1, .int .i64 B2, .int .i64 B3, .int .i64 B4] 37))
      rw [HB.out, HBB.out]
      have hs5 := hb5.size
      have HX5 := Lib.hid ((HX.out.below hb5).below ((Below.refl _ _).alloc (Nat.le_refl _) (.cells #[.int .i64 B1, .int .i64 B2, .int .i64 B3, .int .i64 B4] 37)))
      have hy : WtBox (w5.alloc (.cells #[.int .i64 B1, .int .i64 B2, .int .i64 B3, .int .i64 B4] 37)) w5.heap.size ⟨B1, B2, B3, B4⟩ := by constructor <;> simp [go_sem]
      have HY := Lib.hid hy
      clear hy hb4 hb5
      go_wp2_with fail
      refine (wait_sum l _ who _ q0.out hlen HW.out).mono ?_
      rintro e w6 ⟨rfl, hb6⟩
      have hbel6 := bstep1 hbel5 (Nat.le_refl _) hb6
      replace q0 := Lib.hid (q0.out.below hb6)
      rw [HD.out]
      go_wp2_with fail
      refine (ref34_sum l _ who _ q0.out hlen HW.out).mono ?_
      rintro e w7 ⟨rfl, hb7⟩
      have hbel7 := bstep hbel6 (Nat.le_refl _) hb7
      rw [HD.out]
      obtain ⟨x0, x1, x2, x3, _, _, _, _⟩ := (HX5.out.below hb6).below hb7
      obtain ⟨y0, y1, y2, y3, _, _, _, _⟩ := (HY.out.below hb6).below hb7
      simp only at x0 x1 x2 x3 y0 y1 y2 y3
      clear hb6 hb7
      have hsame := HSAME.out
      go_wp2
      go_ret
      exact ⟨ret_bool (by simp), hbel7⟩

set_option maxHeartbeats 4000000 in
set_option maxRecDepth 100000 in
theorem wait_open_law (l : List Ev) (v : Value) (c1 c2 : Int) (who : Int) (w : World) (hl : EvsAt w v l) (hwf : ∀ e ∈ l, WfE e) (hwc : WfC (c1, c2)) (hww : (Lit.int .i64 who).wf = true) :
    Calls Try.prog 7 #[v, .agg #[.int .i64 c1, .int .i64 c2], .int .i64 who] w fun r w' => r = .returned (.bool true) ∧ Below w.heap.size w w' := by
  obtain ⟨a, ca, rfl, hl1, hl2, _⟩ := id hl
  unfold maxLen at hl2
  obtain ⟨W0, hW0⟩ : ∃ W0, w.alloc (.cells #[.int .i64 c1, .int .i64 c2] 31) = W0 := ⟨_, rfl⟩
  have d0 : W0.cell? ⟨w.heap.size, 0, none⟩ = some (.int .i64 c1) := by rw [← hW0]; simp [go_sem]
  have d1 : W0.cell? ⟨w.heap.size, 1, none⟩ = some (.int .i64 c2) := by rw [← hW0]; simp [go_sem]
  have hs0 : w.heap.size < W0.heap.size := by rw [← hW0]; simp
  have hbw : Below w.heap.size w W0 := by rw [← hW0]; exact (Below.refl _ _).alloc (Nat.le_refl _) _
  have q0 := Lib.hid (hl.below hbw)
  have HW := Lib.hid hwf
  have HWC := Lib.hid hwc
  have HWW := Lib.hid hww
  have HW0 := Lib.hid hW0
  clear hl hwf hwc hww hW0
  by_cases hg : 200 < l.length
  · go_enter Try.func7, Try.ntmps7
    go_wp2_with fail
    rw [HW0.out]
    refine (wait_lives _).mono ?_
    rintro e w1 ⟨rfl, hb1⟩
    go_wp2
    go_ret
    exact ⟨rfl, bstep hbw (by omega) hb1⟩
  have hlen : l.length ≤ 100000000 := by omega
  have HLEN := Lib.hid hlen
  go_enter Try.func7, Try.ntmps7
  go_wp2
  rw [HW0.out]
  refine wp_region_lex (fun w' => Below W0.heap.size W0 w' ∧ (∀ b o, b < W0.heap.size → w'.cell? ⟨b, o, none⟩ = W0.cell? ⟨b, o, none⟩) ∧ ∀ b o, b < W0.heap.size → w'.frozen? ⟨b, o, none⟩ = W0.frozen? ⟨b, o, none⟩) (by kernel_rfl) (by kernel_rfl) (Keeps.atDraw _) ?_
  repeat (first
    | (apply Lex.take
       · rfl
       · (intro w' hS; go_simp; first
           | exact ⟨rfl, hS⟩
           | (apply StepsTo.enter; (with_reducible apply Calls.mono (wait_lives _)); rintro r w5 ⟨rfl, hb⟩; exact ⟨rfl, Keeps.call hb hS⟩)
           | (apply StepsTo.enter; (with_reducible apply Calls.mono (wait_open l _ _ (q0.out.below hS.1) HLEN.out)); rintro r w5 ⟨rfl, hb⟩; exact ⟨rfl, Keeps.call hb hS⟩)
           | (apply StepsTo.enter; (with_reducible apply Calls.mono (ref34_open l _ _ (q0.out.below hS.1) HLEN.out)); rintro r w5 ⟨rfl, hb⟩; exact ⟨rfl, Keeps.call hb hS⟩)
           | (apply StepsTo.enter; (with_reducible apply Calls.mono (wait_overtaken l _ (c1, c2) _ (q0.out.below hS.1) HLEN.out HW.out HWC.out)); rintro r w5 ⟨rfl, hb⟩; exact ⟨rfl, Keeps.call hb hS⟩)
           | (apply StepsTo.enter; (with_reducible apply Calls.mono (ref34_overtaken l _ (c1, c2) _ (q0.out.below hS.1) HLEN.out HW.out)); rintro r w5 ⟨rfl, hb⟩; exact ⟨rfl, Keeps.call hb hS⟩)
           | (apply StepsTo.enter; (with_reducible apply Calls.mono (wait_rest l _ who _ (q0.out.below hS.1) HLEN.out HW.out HWW.out)); rintro r w5 ⟨rfl, hb⟩; exact ⟨rfl, Keeps.call hb hS⟩)
           | (apply StepsTo.enter; (with_reducible apply Calls.mono (ref34_rest l _ who _ (q0.out.below hS.1) HLEN.out HW.out)); rintro r w5 ⟨rfl, hb⟩; exact ⟨rfl, Keeps.call hb hS⟩))
       simp only [Act.put, List.setIfInBounds_toArray, List.set_cons_zero, List.set_cons_succ]))
  refine Lex.nil ?_
  intro w' hS
  obtain ⟨hbW, _, _⟩ := hS
  go_wp2
  go_ret
  exact ⟨ret_bool (by simp), bstep hbw (by omega) hbW⟩

end Go.Proofs.Yteaahepjendjmaa
