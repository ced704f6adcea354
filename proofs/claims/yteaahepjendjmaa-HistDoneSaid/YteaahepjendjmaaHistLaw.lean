/- The walks of the statements of law 19: each returns true, and writes nothing that was there. -/
import Derived.Test.YteaahepjendjmaaHistLives
import Derived.Test.YteaahepjendjmaaHistOpen
namespace Go.Proofs.Yteaahepjendjmaa
open Go.RowKit
set_option linter.unusedVariables false
set_option linter.unusedSimpArgs false

set_option maxHeartbeats 2000000 in
theorem hist_right_law (l : List Ev) (v : Value) (w : World) (hl : EvsAt w v l) :
    Calls Try.prog 3 #[v] w fun r w' => r = .returned (.bool true) ∧ Below w.heap.size w w' := by
  obtain ⟨a, ca, rfl, hl1, hl2, _⟩ := id hl
  unfold maxLen at hl2
  have q0 := hl
  clear hl
  by_cases hg : 200 < l.length
  · go_enter Try.func3, Try.ntmps3
    go_wp2_with fail
    refine (hist_lives _).mono ?_
    rintro e w1 ⟨rfl, hb1⟩
    go_wp2
    go_ret
    exact ⟨rfl, hb1⟩
  have hlen : l.length ≤ 100000000 := by omega
  go_enter Try.func3, Try.ntmps3
  go_wp2_with fail
  refine (hist_lives _).mono ?_
  rintro e w1 ⟨rfl, hb1⟩
  replace q0 := q0.below hb1
  go_wp2_with fail
  refine (hist_right l _ _ q0 hlen).mono ?_
  rintro e w2 ⟨rfl, hb2⟩
  have hbel2 := bstep hb1 (Nat.le_refl _) hb2
  replace q0 := q0.below hb2
  go_wp2_with fail
  refine (ref19_right l _ _ q0 hlen).mono ?_
  rintro e w3 ⟨rfl, hb3⟩
  have hbel3 := bstep hbel2 (Nat.le_refl _) hb3
  replace q0 := q0.below hb3
  clear hb1 hb2 hb3 hbel2
  go_wp2_with fail
  refine (hist_done l _ _ q0 hlen).mono ?_
  rintro e w4 ⟨⟨v4, rfl, p4⟩, hb4⟩
  have hbel4 := bstep hbel3 (Nat.le_refl _) hb4
  replace q0 := q0.below hb4
  go_wp2_with fail
  refine (ref19_all l _ 2 _ q0 hlen).mono ?_
  rintro e w5 ⟨⟨v5, rfl, p5⟩, hb5⟩
  have hbel5 := bstep hbel4 (Nat.le_refl _) hb5
  replace q0 := q0.below hb5
  replace p4 := p4.below hb5
  go_wp2_with fail
  refine (ref19_same _ _ _ _ _ p4 p5).mono ?_
  rintro e w6 ⟨rfl, hb6⟩
  have hbel6 := bstep hbel5 (Nat.le_refl _) hb6
  replace q0 := q0.below hb6
  simp only [decide_true]
  clear hb4 hb5 hb6 hbel3 hbel4 hbel5 p4 p5
  go_wp2_with fail
  refine (hist_told l _ _ q0 hlen).mono ?_
  rintro e w4 ⟨⟨v4, rfl, p4⟩, hb4⟩
  have hbel7 := bstep hbel6 (Nat.le_refl _) hb4
  replace q0 := q0.below hb4
  go_wp2_with fail
  refine (ref19_all l _ 3 _ q0 hlen).mono ?_
  rintro e w5 ⟨⟨v5, rfl, p5⟩, hb5⟩
  have hbel8 := bstep hbel7 (Nat.le_refl _) hb5
  replace q0 := q0.below hb5
  replace p4 := p4.below hb5
  go_wp2_with fail
  refine (ref19_same _ _ _ _ _ p4 p5).mono ?_
  rintro e w6 ⟨rfl, hb6⟩
  have hbel9 := bstep hbel8 (Nat.le_refl _) hb6
  replace q0 := q0.below hb6
  simp only [decide_true]
  clear hb4 hb5 hb6 hbel6 hbel7 hbel8 p4 p5
  go_wp2_with fail
  refine (hist_open l _ _ q0 hlen).mono ?_
  rintro e w4 ⟨⟨v4, rfl, p4⟩, hb4⟩
  have hbel7 := bstep hbel9 (Nat.le_refl _) hb4
  replace q0 := q0.below hb4
  go_wp2_with fail
  refine (ref19_open l _ _ q0 hlen).mono ?_
  rintro e w5 ⟨⟨v5, rfl, p5⟩, hb5⟩
  have hbel8 := bstep hbel7 (Nat.le_refl _) hb5
  replace p4 := p4.below hb5
  go_wp2_with fail
  refine (ref19_same _ _ _ _ _ p4 p5).mono ?_
  rintro e w6 ⟨rfl, hb6⟩
  have hbel10 := bstep hbel8 (Nat.le_refl _) hb6
  simp only [decide_true]
  go_wp2
  go_ret
  exact ⟨ret_bool (by simp), hbel10⟩

set_option maxHeartbeats 2000000 in
theorem hist_done_law (l : List Ev) (v : Value) (w : World) (hl : EvsAt w v l) (hwf : ∀ e ∈ l, WfE e) :
    Calls Try.prog 4 #[v] w fun r w' => r = .returned (.bool true) ∧ Below w.heap.size w w' := by
  obtain ⟨a, ca, rfl, hl1, hl2, _⟩ := id hl
  unfold maxLen at hl2
  have q0 := hl
  have HW : Hid (∀ e ∈ l, WfC (ofE e)) := fun e he => (hwf e he).call
  clear hl hwf
  by_cases hg : 200 < l.length
  · go_enter Try.func4, Try.ntmps4
    go_wp2_with fail
    refine (hist_lives _).mono ?_
    rintro e w1 ⟨rfl, hb1⟩
    go_wp2
    go_ret
    exact ⟨rfl, hb1⟩
  have hlen : l.length ≤ 100000000 := by omega
  go_enter Try.func4, Try.ntmps4
  go_wp2_with fail
  refine (ref19_right l _ _ q0 hlen).mono ?_
  rintro e w1 ⟨rfl, hb1⟩
  replace q0 := q0.below hb1
  cases hr : rightB l with
  | false =>
    go_wp2_with fail
    refine (hist_lives _).mono ?_
    rintro e w2 ⟨rfl, hb2⟩
    go_wp2
    go_ret
    exact ⟨rfl, bstep hb1 (Nat.le_refl _) hb2⟩
  | true =>
    have HR := Lib.hid hr
    clear hr
    go_wp2_with fail
    refine (hist_lives _).mono ?_
    rintro e w2 ⟨rfl, hb2⟩
    have hbel2 := bstep hb1 (Nat.le_refl _) hb2
    replace q0 := q0.below hb2
    go_wp2_with fail
    refine (hist_right l _ _ q0 hlen).mono ?_
    rintro e w3 ⟨rfl, hb3⟩
    have hbel3 := bstep hbel2 (Nat.le_refl _) hb3
    replace q0 := q0.below hb3
    rw [HR.out]
    go_wp2_with fail
    refine (hist_done l _ _ q0 hlen).mono ?_
    rintro e w4 ⟨⟨v4, rfl, p4⟩, hb4⟩
    have hbel4 := bstep hbel3 (Nat.le_refl _) hb4
    replace q0 := q0.below hb4
    have hle := callsE_le (isK 2) l
    have HC : Hid (∀ c ∈ callsE (isK 2) l, WfC c) := by
      intro c hc
      obtain ⟨i, e, h1, _, h3⟩ := mem_callsE.1 hc
      rw [← h3]
      exact HW.out e (List.mem_of_getElem? h1)
    go_wp2_with fail
    refine (hist_fits l _ _ _ _ q0 p4 hlen (by omega) HC.out HW.out).mono ?_
    rintro e w5 ⟨rfl, hb5⟩
    have hbel5 := bstep hbel4 (Nat.le_refl _) hb5
    rw [done_fits HR.out]
    go_wp2
    go_ret
    exact ⟨rfl, hbel5⟩

/-- A call in a block of its own. -/
def CallBox (w : World) (B : Nat) (c : Int × Int) : Prop := w.cell? ⟨B, 0, none⟩ = some (.int .i64 c.1) ∧ w.cell? ⟨B, 1, none⟩ = some (.int .i64 c.2)
theorem CallBox.below {w w' : World} {B : Nat} {c : Int × Int} (h : CallBox w B c) (hb : Below w.heap.size w w') : CallBox w' B c := by
  have hlt : B < w.heap.size := World.block_lt_of_cell? _ _ h.1
  exact ⟨by rw [hb.cell (p := ⟨B, 0, none⟩) hlt]; exact h.1, by rw [hb.cell (p := ⟨B, 1, none⟩) hlt]; exact h.2⟩

set_option maxHeartbeats 4000000 in
theorem hist_order_law (l : List Ev) (v : Value) (a1 a2 b1 b2 c1 c2 : Int) (w : World) (hl : EvsAt w v l) :
    Calls Try.prog 5 #[v, .agg #[.int .i64 a1, .int .i64 a2], .agg #[.int .i64 b1, .int .i64 b2], .agg #[.int .i64 c1, .int .i64 c2]] w fun r w' => r = .returned (.bool true) ∧ Below w.heap.size w w' := by
  obtain ⟨a, ca, rfl, hl1, hl2, _⟩ := id hl
  unfold maxLen at hl2
  obtain ⟨W0, hW0⟩ : ∃ W0, ((w.alloc (.cells #[.int .i64 a1, .int .i64 a2] 31)).alloc (.cells #[.int .i64 b1, .int .i64 b2] 31)).alloc (.cells #[.int .i64 c1, .int .i64 c2] 31) = W0 := ⟨_, rfl⟩
  have qa : CallBox W0 w.heap.size (a1, a2) := by rw [← hW0]; constructor <;> simp [go_sem]
  have qb : CallBox W0 (w.heap.size + 1) (b1, b2) := by rw [← hW0]; constructor <;> simp [go_sem]
  have qc : CallBox W0 (w.heap.size + 1 + 1) (c1, c2) := by rw [← hW0]; constructor <;> simp [go_sem]
  have hs0 : w.heap.size + 1 + 1 < W0.heap.size := by rw [← hW0]; simp
  have hbw : Below w.heap.size w W0 := by rw [← hW0]; exact (((Below.refl _ _).alloc (Nat.le_refl _) _).alloc (by simp) _).alloc (by simp; omega) _
  have q0 := hl.below hbw
  have HW0 := Lib.hid hW0
  clear hl hW0
  by_cases hg : 200 < l.length
  · go_enter Try.func5, Try.ntmps5
    go_wp2_with fail
    rw [HW0.out]
    refine (hist_lives _).mono ?_
    rintro e w1 ⟨rfl, hb1⟩
    go_wp2
    go_ret
    exact ⟨rfl, bstep hbw (by omega) hb1⟩
  have hlen : l.length ≤ 100000000 := by omega
  go_enter Try.func5, Try.ntmps5
  go_wp2_with fail
  rw [HW0.out]
  refine (ref19_right l _ _ q0 hlen).mono ?_
  rintro e w1 ⟨rfl, hb1⟩
  replace q0 := q0.below hb1
  have hbel1 := bstep hbw (by omega) hb1
  cases hr : rightB l with
  | false =>
    go_wp2_with fail
    refine (hist_lives _).mono ?_
    rintro e w2 ⟨rfl, hb2⟩
    go_wp2
    go_ret
    exact ⟨rfl, bstep hbel1 (by omega) hb2⟩
  | true =>
    replace qa := qa.below hb1
    replace qb := qb.below hb1
    replace qc := qc.below hb1
    have HR := Lib.hid hr
    have HI := Lib.hid (ahead_irrefl hr (a1, a2))
    have HT := Lib.hid (fun h1 h2 => ahead_trans (a := (a1, a2)) (b := (b1, b2)) (c := (c1, c2)) hr h1 h2)
    have HAS := Lib.hid (fun h1 => ahead_asym (a := (a1, a2)) (b := (b1, b2)) hr h1)
    clear hr hb1
    go_wp2_with fail
    refine (hist_lives _).mono ?_
    rintro e w2 ⟨rfl, hb⟩
    have hbel2 := bstep hbel1 (by omega) hb
    replace q0 := q0.below hb
    replace qa := qa.below hb
    replace qb := qb.below hb
    replace qc := qc.below hb
    clear hb
    obtain ⟨f0, f1⟩ := id qa
    obtain ⟨f2, f3⟩ := id qb
    obtain ⟨f4, f5⟩ := id qc
    go_wp2_with fail
    clear f0 f1 f2 f3 f4 f5
    refine (hist_before l (a1, a2) (a1, a2) _ _ q0).mono ?_
    rintro e w3 ⟨rfl, hb⟩
    have hbel3 := bstep hbel2 (by omega) hb
    replace q0 := q0.below hb
    replace qa := qa.below hb
    replace qb := qb.below hb
    replace qc := qc.below hb
    clear hb
    rw [HI.out]
    obtain ⟨f0, f1⟩ := id qa
    obtain ⟨f2, f3⟩ := id qb
    obtain ⟨f4, f5⟩ := id qc
    go_wp2_with fail
    clear f0 f1 f2 f3 f4 f5
    refine (hist_before l (a1, a2) (b1, b2) _ _ q0).mono ?_
    rintro e w4 ⟨rfl, hb⟩
    have hbel4 := bstep hbel3 (by omega) hb
    replace q0 := q0.below hb
    replace qa := qa.below hb
    replace qb := qb.below hb
    replace qc := qc.below hb
    clear hb
    cases hab : aheadB l (a1, a2) (b1, b2) with
    | false =>
      have HAB := Lib.hid hab
      clear hab
      obtain ⟨f0, f1⟩ := id qa
      obtain ⟨f2, f3⟩ := id qb
      obtain ⟨f4, f5⟩ := id qc
      go_wp2_with fail
      clear f0 f1 f2 f3 f4 f5
      refine (hist_before l (a1, a2) (b1, b2) _ _ q0).mono ?_
      rintro e w5 ⟨rfl, hb⟩
      have hbel5 := bstep hbel4 (by omega) hb
      replace q0 := q0.below hb
      replace qa := qa.below hb
      replace qb := qb.below hb
      replace qc := qc.below hb
      clear hb
      rw [HAB.out]
      go_wp2
      go_ret
      exact ⟨rfl, hbel5⟩
    | true =>
      have HAB := Lib.hid hab
      clear hab
      obtain ⟨f0, f1⟩ := id qa
      obtain ⟨f2, f3⟩ := id qb
      obtain ⟨f4, f5⟩ := id qc
      go_wp2_with fail
      clear f0 f1 f2 f3 f4 f5
      refine (hist_before l (b1, b2) (a1, a2) _ _ q0).mono ?_
      rintro e w5 ⟨rfl, hb⟩
      have hbel5 := bstep hbel4 (by omega) hb
      replace q0 := q0.below hb
      replace qa := qa.below hb
      replace qb := qb.below hb
      replace qc := qc.below hb
      clear hb
      rw [HAS.out HAB.out]
      obtain ⟨f0, f1⟩ := id qa
      obtain ⟨f2, f3⟩ := id qb
      obtain ⟨f4, f5⟩ := id qc
      go_wp2_with fail
      clear f0 f1 f2 f3 f4 f5
      refine (hist_before l (a1, a2) (b1, b2) _ _ q0).mono ?_
      rintro e w6 ⟨rfl, hb⟩
      have hbel6 := bstep hbel5 (by omega) hb
      replace q0 := q0.below hb
      replace qa := qa.below hb
      replace qb := qb.below hb
      replace qc := qc.below hb
      clear hb
      rw [HAB.out]
      obtain ⟨f0, f1⟩ := id qa
      obtain ⟨f2, f3⟩ := id qb
      obtain ⟨f4, f5⟩ := id qc
      go_wp2_with fail
      clear f0 f1 f2 f3 f4 f5
      refine (hist_before l (b1, b2) (c1, c2) _ _ q0).mono ?_
      rintro e w7 ⟨rfl, hb⟩
      have hbel7 := bstep hbel6 (by omega) hb
      replace q0 := q0.below hb
      replace qa := qa.below hb
      replace qb := qb.below hb
      replace qc := qc.below hb
      clear hb
      cases hbc : aheadB l (b1, b2) (c1, c2) with
      | false =>
        go_wp2
        go_ret
        exact ⟨rfl, hbel7⟩
      | true =>
        have HBC := Lib.hid hbc
        clear hbc
        obtain ⟨f0, f1⟩ := id qa
        obtain ⟨f2, f3⟩ := id qb
        obtain ⟨f4, f5⟩ := id qc
        go_wp2_with fail
        clear f0 f1 f2 f3 f4 f5
        refine (hist_before l (a1, a2) (c1, c2) _ _ q0).mono ?_
        rintro e w8 ⟨rfl, hb⟩
        have hbel8 := bstep hbel7 (by omega) hb
        replace q0 := q0.below hb
        replace qa := qa.below hb
        replace qb := qb.below hb
        replace qc := qc.below hb
        clear hb
        rw [HT.out HAB.out HBC.out]
        go_wp2
        go_ret
        exact ⟨rfl, hbel8⟩

end Go.Proofs.Yteaahepjendjmaa
