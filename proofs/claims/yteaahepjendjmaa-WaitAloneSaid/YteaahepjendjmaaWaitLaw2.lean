/- The walks of the statements of law 34, on: WaitAdds, WaitAlone. -/
import Derived.Test.YteaahepjendjmaaWaitLives
import Derived.Test.YteaahepjendjmaaWaitPlain
namespace Go.Proofs.Yteaahepjendjmaa
open Go.RowKit
set_option linter.unusedVariables false
set_option linter.unusedSimpArgs false

theorem addsS_bd {l : List Ev} (h : rightB l = true) (hwf : ∀ e ∈ l, WfE e) (who : Int) : ∀ k, k ≤ l.length → 0 ≤ (addsS who (l.take k)).1 ∧ (addsS who (l.take k)).1 ≤ 9223372036854775807 ∧ 0 ≤ (addsS who (l.take k)).2.1 ∧ (addsS who (l.take k)).2.1 ≤ 9223372036854775807 ∧ (addsS who (l.take k)).2.2 ≤ k
  | 0, _ => by simp [addsS]
  | k + 1, hk => by
    have ih := addsS_bd h hwf who k (by omega)
    have hke : l[k]? = some l[k] := List.getElem?_eq_getElem (by omega)
    generalize l[k] = e at hke
    have hp := (right_at h hke).pos
    have hwe := (hwf e (List.mem_of_getElem? hke)).2.2.2
    have hte : e.t ≤ 9223372036854775807 := by
      simp only [Lit.wf, Bool.and_eq_true, decide_eq_true_eq] at hwe
      exact hwe.2
    rw [addsS_snoc hke]
    unfold addsStep
    generalize addsS who (l.take k) = s at *
    split
    · simp only
      refine ⟨?_, ?_, by omega, hte, by omega⟩
      · split <;> omega
      · split <;> omega
    · omega

set_option maxHeartbeats 4000000 in
set_option maxRecDepth 100000 in
theorem wait_adds_law (l : List Ev) (v : Value) (who : Int) (w : World) (hl : EvsAt w v l) (hwf : ∀ e ∈ l, WfE e) (hww : (Lit.int .i64 who).wf = true) :
    Calls Try.prog 8 #[v, .int .i64 who] w fun r w' => r = .returned (.bool true) ∧ Below w.heap.size w w' := by
  obtain ⟨a, ca, rfl, hl1, hl2, _⟩ := id hl
  unfold maxLen at hl2
  have q0 := Lib.hid hl
  have HW := Lib.hid hwf
  have HWW := Lib.hid hww
  clear hl hwf hww
  by_cases hg : 200 < l.length
  · go_enter Try.func8, Try.ntmps8
    go_wp2_with fail
    refine (wait_lives _).mono ?_
    rintro e w1 ⟨rfl, hb1⟩
    go_wp2
    go_ret
    exact ⟨rfl, hb1⟩
  have hlen : l.length ≤ 100000000 := by omega
  have hle := waitsL_le l
  go_enter Try.func8, Try.ntmps8
  go_wp2_with fail
  refine (ref19_right l _ _ q0.out hlen).mono ?_
  rintro e w1 ⟨rfl, hb1⟩
  replace q0 := Lib.hid (q0.out.below hb1)
  cases hr : rightB l with
  | false =>
    go_wp2_with fail
    refine (wait_lives _).mono ?_
    rintro e w2 ⟨rfl, hb2⟩
    go_wp2
    go_ret
    exact ⟨rfl, bstep hb1 (by omega) hb2⟩
  | true =>
    have HR := Lib.hid hr
    clear hr
    go_wp2
    go_loopw [5, 6, 7, 8] (fun f t n i wr => ∃ k : Nat, k ≤ l.length ∧ i = .int .i64 k ∧ f = .int .i64 (addsS who (l.take k)).1 ∧ t = .int .i64 (addsS who (l.take k)).2.1 ∧ n = .int .i64 ((addsS who (l.take k)).2.2 : Nat) ∧ Below w1.heap.size w1 wr) (fun _ _ _ i _ => l.length - (intOf i).toNat)
    case atStart => exact ⟨0, Nat.zero_le _, rfl, rfl, rfl, rfl, Below.refl _ _⟩
    case round =>
      obtain ⟨k, hk, rfl, rfl, rfl, rfl, hbel⟩ := hrel
      have hbd := addsS_bd HR.out HW.out who k hk
      obtain ⟨z, hz⟩ : ∃ z, addsS who (l.take k) = z := ⟨_, rfl⟩
      rw [hz] at hbd ⊢
      have HZ := Lib.hid hz
      clear hz
      obtain ⟨f, t, n⟩ := z
      obtain ⟨p1, p2, p3, p4, p5⟩ := hbd
      simp only at p1 p2 p3 p4 p5 ⊢
      by_cases hlt : k < l.length
      · obtain ⟨b1, o1, e, rfl, hb1, hke, c1, c2, c3, c4⟩ := EvsAt.get4 q0.out hlt
        rw [← hbel.cell (p := ⟨b1, _, none⟩) hb1] at c1 c2 c3 c4
        have HS := Lib.hid (addsS_snoc (who := who) hke)
        obtain ⟨ek, ew, en, et⟩ := e
        simp only at c1 c2 c3 c4
        clear hke
        cases hd : (ew != who) with
        | true =>
          have hst : addsS who (l.take (k + 1)) = (f, t, n) := by rw [HS.out, HZ.out]; unfold addsStep; rw [if_neg (by simpa using hd)]
          have HST := Lib.hid hst
          clear hst
          go_wp2
          exact ⟨⟨k + 1, hlt, by go_num, val_i (by rw [HST.out]), val_i (by rw [HST.out]), val_i (by rw [HST.out]), hbel⟩, by simp [intOf]; omega⟩
        | false =>
          cases hn : ((n : Int) == 0) with
          | true =>
            have hn0 : n = 0 := by have : (n : Int) = 0 := by simpa using hn
                                   omega
            have hst : addsS who (l.take (k + 1)) = (et, et, n + 1) := by rw [HS.out, HZ.out]; unfold addsStep; rw [if_pos (by simpa using hd)]; simp only; rw [if_pos hn0]
            have HST := Lib.hid hst
            clear hst hn0
            go_wp2
            exact ⟨⟨k + 1, hlt, by go_num, val_i (by rw [HST.out]), val_i (by rw [HST.out]), val_i (by rw [HST.out]; simp), hbel⟩, by simp [intOf]; omega⟩
          | false =>
            have hn0 : ¬ n = 0 := by have : ¬ (n : Int) = 0 := by simpa using hn
                                     omega
            have hst : addsS who (l.take (k + 1)) = (f, et, n + 1) := by rw [HS.out, HZ.out]; unfold addsStep; rw [if_pos (by simpa using hd)]; simp only; rw [if_neg hn0]
            have HST := Lib.hid hst
            clear hst hn0
            go_wp2
            exact ⟨⟨k + 1, hlt, by go_num, val_i (by rw [HST.out]), val_i (by rw [HST.out]), val_i (by rw [HST.out]; simp), hbel⟩, by simp [intOf]; omega⟩
      · obtain rfl : k = l.length := by omega
        rw [List.take_length] at HZ
        have hbelr := bstep hb1 (Nat.le_refl _) hbel
        replace q0 := Lib.hid (q0.out.below hbel)
        clear hbel hb1
        cases hn : ((n : Int) == 0) with
        | true =>
          go_wp2_with fail
          refine (wait_lives _).mono ?_
          rintro e w2 ⟨rfl, hb2⟩
          go_wp2
          go_ret
          exact ⟨rfl, bstep hbelr (Nat.le_refl _) hb2⟩
        | false =>
          cases h3 : ((n : Int) % 3 != 0) with
          | true =>
            go_wp2_with fail
            refine (wait_lives _).mono ?_
            rintro e w2 ⟨rfl, hb2⟩
            go_wp2
            go_ret
            exact ⟨rfl, bstep hbelr (Nat.le_refl _) hb2⟩
          | false =>
            by_cases hge : 1152921504606846976 ≤ t - f
            · go_wp2_with fail
              refine (wait_lives _).mono ?_
              rintro e w2 ⟨rfl, hb2⟩
              go_wp2
              go_ret
              exact ⟨rfl, bstep hbelr (Nat.le_refl _) hb2⟩
            · have hlaw := adds_law HR.out who HZ.out (by have : ¬ (n : Int) = 0 := by simpa using hn
                                                          omega) (by have : (n : Int) % 3 = 0 := by simpa using h3
                                                                     omega) (by omega)
              obtain ⟨D, hD⟩ : ∃ D, sumL who (waitsL l) = D := ⟨_, rfl⟩
              obtain ⟨R, hRR⟩ : ∃ R, restM who l = R := ⟨_, rfl⟩
              have HD := Lib.hid hD
              have HRR := Lib.hid hRR
              rw [hD, hRR] at hlaw
              obtain ⟨D1, D2⟩ := D
              obtain ⟨g1, g2, g3, g4⟩ := hlaw
              simp only at g1 g2 g4
              have G4 := Lib.hid g4
              have m1 : D1 ≤ 1152921504606846976 := by omega
              have m2 : D2 ≤ 1152921504606846976 := by omega
              have m3 : R ≤ 1152921504606846976 := by omega
              clear hD hRR g4
              go_wp2_with fail
              refine (wait_sum l _ who _ q0.out hlen HW.out).mono ?_
              rintro e w2 ⟨rfl, hb2⟩
              have hbel2 := bstep hbelr (Nat.le_refl _) hb2
              replace q0 := Lib.hid (q0.out.below hb2)
              rw [HD.out]
              go_wp2_with fail
              refine (wait_lives _).mono ?_
              rintro e w3 ⟨rfl, hb3⟩
              have hbel3 := bstep hbel2 (Nat.le_refl _) hb3
              replace q0 := Lib.hid (q0.out.below hb3)
              go_wp2_with fail
              refine (wait_rest l _ who _ q0.out hlen HW.out HWW.out).mono ?_
              rintro e w4 ⟨rfl, hb4⟩
              have hbel4 := bstep hbel3 (Nat.le_refl _) hb4
              rw [HRR.out]
              go_wp2
              go_ret
              exact ⟨ret_bool (by simpa using G4.out), hbel4⟩

set_option maxHeartbeats 4000000 in
theorem wait_alone_law (l : List Ev) (v : Value) (c1 c2 : Int) (w : World) (hl : EvsAt w v l) (hwf : ∀ e ∈ l, WfE e) (hwc : WfC (c1, c2)) :
    Calls Try.prog 9 #[v, .agg #[.int .i64 c1, .int .i64 c2]] w fun r w' => r = .returned (.bool true) ∧ Below w.heap.size w w' := by
  obtain ⟨a, ca, rfl, hl1, hl2, _⟩ := id hl
  unfold maxLen at hl2
  obtain ⟨W0, hW0⟩ : ∃ W0, w.alloc (.cells #[.int .i64 c1, .int .i64 c2] 31) = W0 := ⟨_, rfl⟩
  have d0 : W0.cell? ⟨w.heap.size, 0, none⟩ = some (.int .i64 c1) := by rw [← hW0]; simp [go_sem]
  have d1 : W0.cell? ⟨w.heap.size, 1, none⟩ = some (.int .i64 c2) := by rw [← hW0]; simp [go_sem]
  have hs0 : w.heap.size < W0.heap.size := by rw [← hW0]; simp
  have hbw : Below w.heap.size w W0 := by rw [← hW0]; exact (Below.refl _ _).alloc (Nat.le_refl _) _
  have q0 := Lib.hid (hl.below hbw)
  have HW := Lib.hid hwf
  have HWC := Lib.hid hwc
  have HW0 := Lib.hid hW0
  clear hl hwf hwc hW0
  by_cases hg : 200 < l.length
  · go_enter Try.func9, Try.ntmps9
    go_wp2_with fail
    rw [HW0.out]
    refine (wait_lives _).mono ?_
    rintro e w1 ⟨rfl, hb1⟩
    go_wp2
    go_ret
    exact ⟨rfl, bstep hbw (by omega) hb1⟩
  have hlen : l.length ≤ 100000000 := by omega
  go_enter Try.func9, Try.ntmps9
  go_wp2_with fail
  rw [HW0.out]
  refine (ref19_right l _ _ q0.out hlen).mono ?_
  rintro e w1 ⟨rfl, hb1⟩
  have hbel1 := bstep hbw (by omega) hb1
  have hs1 := hb1.size
  rw [← hb1.cell (p := ⟨w.heap.size, _, none⟩) hs0] at d0 d1
  replace q0 := Lib.hid (q0.out.below hb1)
  cases hr : rightB l with
  | false =>
    go_wp2_with fail
    refine (wait_lives _).mono ?_
    rintro e w2 ⟨rfl, hb2⟩
    go_wp2
    go_ret
    exact ⟨rfl, bstep hbel1 (by omega) hb2⟩
  | true =>
    have HR := Lib.hid hr
    clear hr
    go_wp2_with fail
    refine (wait_open l _ _ q0.out hlen).mono ?_
    rintro e w2 ⟨rfl, hb2⟩
    have hbel2 := bstep hbel1 (by omega) hb2
    have hs2 := hb2.size
    rw [← hb2.cell (p := ⟨w.heap.size, _, none⟩) (by show w.heap.size < w1.heap.size; omega)] at d0 d1
    replace q0 := Lib.hid (q0.out.below hb2)
    obtain ⟨m, hm⟩ : ∃ m, openM l = m := ⟨_, rfl⟩
    rw [hm]
    by_cases hgt : 1 < m
    · clear hm
      go_wp2_with fail
      refine (wait_lives _).mono ?_
      rintro e w3 ⟨rfl, hb3⟩
      go_wp2
      go_ret
      exact ⟨rfl, bstep hbel2 (by omega) hb3⟩
    · have HZ := Lib.hid (alone_law HR.out (by omega) (c1, c2))
      clear hm
      go_wp2_with fail
      refine (wait_lives _).mono ?_
      rintro e w3 ⟨rfl, hb3⟩
      have hbel3 := bstep hbel2 (by omega) hb3
      have hs3 := hb3.size
      rw [← hb3.cell (p := ⟨w.heap.size, _, none⟩) (by show w.heap.size < w2.heap.size; omega)] at d0 d1
      replace q0 := Lib.hid (q0.out.below hb3)
      go_wp2_with fail
      refine (wait_overtaken l _ (c1, c2) _ q0.out hlen HW.out HWC.out).mono ?_
      rintro e w4 ⟨rfl, hb4⟩
      have hbel4 := bstep hbel3 (by omega) hb4
      rw [HZ.out]
      go_wp2
      go_ret
      exact ⟨ret_bool (by simp), hbel4⟩

end Go.Proofs.Yteaahepjendjmaa
