/- The walk of MutexRuns: it returns true. -/
import Derived.Test.YtacmigimkdiagaaMutLives
import Derived.Test.YtacmigimkdiagaaOpenR
import Derived.Test.YtacmigimkdiagaaStable
namespace Go.Proofs.Ytacmigimkdiagaa
open Go.RowKit
set_option linter.unusedVariables false
set_option linter.unusedSimpArgs false

/-- A lock or an unlock: free, the id, who. -/
abbrev GripL : Type := Bool × Int × Int
def gripRow (e : GripL) : List Value := [.bool e.1, .int .i64 e.2.1, .int .i64 e.2.2]
theorem gripRow_len (e : GripL) : (gripRow e).length = 3 := rfl
abbrev GripsAt (w : World) (v : Value) (l : List GripL) : Prop := RowsAt 3 gripRow w v l
theorem GripsAt.get3 {w : World} {a : Option Addr} {n cap k : Nat} {l : List GripL} (h : GripsAt w (.slice a n cap) l) (hk : k < l.length) :
    ∃ b off fr id who, a = some ⟨b, off, none⟩ ∧ b < w.heap.size ∧ l[k]? = some (fr, id, who) ∧ w.cell? ⟨b, off + k * 3, none⟩ = some (.bool fr) ∧ w.cell? ⟨b, off + k * 3 + 1, none⟩ = some (.int .i64 id) ∧ w.cell? ⟨b, off + k * 3 + 2, none⟩ = some (.int .i64 who) := by
  obtain ⟨b, off, ha, hb, hc⟩ := h.get (List.getElem?_eq_getElem hk)
  exact ⟨b, off, l[k].1, l[k].2.1, l[k].2.2, ha, hb, List.getElem?_eq_getElem hk, hc 0 _ rfl, hc 1 _ rfl, hc 2 _ rfl⟩

theorem rightO_iff (l : List Int) : rightO l = true ↔ ∀ k, k < l.length → 0 ≤ l.getD k 0 ∧ l.getD k 0 ≤ 8 := by
  unfold rightO
  rw [Option.isNone_iff_eq_none]
  constructor
  · intro h k hk
    have := firstIdx_none_spec h k hk
    simp only [ownB_in] at this
    simp at this
    simp
    omega
  · intro h
    refine firstIdx_none fun j hj => ?_
    have := h j hj
    simp only [ownB_in]
    simp
    simp at this
    omega
theorem rightO_set {l : List Int} (h : rightO l = true) (q : Nat) {y : Int} (h0 : 0 ≤ y) (h8 : y ≤ 8) : rightO (l.set q y) = true := by
  rw [rightO_iff] at h ⊢
  intro k hk
  rw [List.length_set] at hk
  rw [List.getD_eq_getElem?_getD, List.getElem?_set]
  by_cases hqk : q = k
  · subst hqk
    rw [if_pos rfl, if_pos hk]
    exact ⟨h0, h8⟩
  · rw [if_neg hqk, ← List.getD_eq_getElem?_getD]
    exact h k hk
theorem rightO_rep (n : Nat) : rightO (List.replicate n 0) = true := by
  rw [rightO_iff]
  intro k hk
  rw [List.length_replicate] at hk
  simp [hk]
theorem may_ok {t : List Int} {id who : Int} (h : mayT t id who = 0) : 1 ≤ who ∧ who ≤ 8 ∧ ∃ q : Nat, id = q ∧ q < t.length := by
  refine ⟨?_, ?_, mayT_ok h⟩
  all_goals
    unfold mayT at h
    split at h
    · simp at h
    · omega
theorem lock_ok {t u : List Int} {id who : Int} (h : lockT t id who = (u, 0)) : ∃ q : Nat, id = q ∧ q < t.length ∧ t.getD q 0 = 0 ∧ u = t.set q who ∧ 1 ≤ who ∧ who ≤ 8 := by
  rw [lockT_may] at h
  split at h
  · rename_i h1
    simp only [Prod.mk.injEq] at h
    exact absurd h.2 h1
  · rename_i h1
    have h1' : mayT t id who = 0 := by simpa using h1
    obtain ⟨g1, g8, q, rfl, hq⟩ := may_ok h1'
    rw [Int.toNat_natCast] at h
    split at h
    · simp at h
    · split at h
      · simp at h
      · rename_i h2
        simp only [Prod.mk.injEq, and_true] at h
        exact ⟨q, rfl, hq, by simpa using h2, h.symm, g1, g8⟩
theorem unlock_ok {t u : List Int} {id who : Int} (h : unlockT t id who = (u, 0)) : ∃ q : Nat, id = q ∧ q < t.length ∧ t.getD q 0 = who ∧ u = t.set q 0 := by
  rw [unlockT_may] at h
  split at h
  · rename_i h1
    simp only [Prod.mk.injEq] at h
    exact absurd h.2 h1
  · rename_i h1
    have h1' : mayT t id who = 0 := by simpa using h1
    obtain ⟨g1, g8, q, rfl, hq⟩ := may_ok h1'
    rw [Int.toNat_natCast] at h
    split at h
    · simp at h
    · rename_i h2
      simp only [Prod.mk.injEq, and_true] at h
      exact ⟨q, rfl, hq, by simpa using h2, h.symm⟩
theorem getD_setI (l : List Int) (q j : Nat) (y : Int) : (l.set q y).getD j 0 = if q = j ∧ j < l.length then y else l.getD j 0 := by
  rw [List.getD_eq_getElem?_getD, List.getElem?_set]
  by_cases h : q = j
  · subst h
    by_cases h2 : q < l.length
    · simp [h2]
    · simp [h2]
  · simp [h]

set_option maxHeartbeats 16000000 in
set_option maxRecDepth 100000 in
theorem mutex_runs_law (n : Int) (l : List GripL) (v : Value) (w : World) (hl : GripsAt w v l) :
    Calls Try.prog 10 #[.int .i64 n, v] w fun e w' => e = .returned (.bool true) ∧ Below w.heap.size w w' := by
  have HL := Lib.hid hl
  obtain ⟨a, ca, rfl, hl1, hl2, hl3, hl4⟩ := hl
  clear hl3 hl4
  unfold maxLen at hl2
  by_cases hn0 : n < 0
  · go_enter Try.func10, Try.ntmps10
    go_wp2_with fail
    refine (mut_lives _).mono ?_
    rintro e w1 ⟨rfl, hb1⟩
    go_wp2
    go_ret
    exact ⟨rfl, hb1⟩
  obtain ⟨N, rfl⟩ : ∃ N : Nat, n = N := ⟨n.toNat, by omega⟩
  by_cases hn200 : 200 < N
  · go_enter Try.func10, Try.ntmps10
    go_wp2_with fail
    refine (mut_lives _).mono ?_
    rintro e w1 ⟨rfl, hb1⟩
    go_wp2
    go_ret
    exact ⟨rfl, hb1⟩
  by_cases hl200 : 200 < l.length
  · go_enter Try.func10, Try.ntmps10
    go_wp2_with fail
    refine (mut_lives _).mono ?_
    rintro e w1 ⟨rfl, hb1⟩
    go_wp2
    go_ret
    exact ⟨rfl, hb1⟩
  go_enter Try.func10, Try.ntmps10
  go_wp2_with fail
  refine (mutex_new N _ (by omega)).mono ?_
  rintro e w1 ⟨⟨v1, rfl, q1⟩, hb1⟩
  have hvs : ∃ av cav, v1 = .slice av N cav := by obtain ⟨a', c', h', _⟩ := q1; exact ⟨a', c', by rw [h', List.length_replicate]⟩
  obtain ⟨av, cav, rfl⟩ := hvs
  have Q1 := Lib.hid q1
  clear q1
  go_wp2_with fail
  refine (mut_lives _).mono ?_
  rintro e w2 ⟨rfl, hb2⟩
  have hbel2 := bstep hb1 (Nat.le_refl _) hb2
  have Q2 := Lib.hid (Q1.out.below hb2)
  clear hb1 hb2 Q1
  go_wp2
  go_loopg [5, 6] l.length (fun g tv i wr => ∃ (k : Nat) (T : List Int) (at' : Option Addr) (ct : Nat), k + g = l.length ∧ i = .int .i64 k ∧ tv = .slice at' N ct ∧ Hid (IntsAt wr tv T ∧ T.length = N ∧ rightO T = true) ∧ Below w.heap.size w wr)
  case atStart => exact ⟨0, List.replicate N 0, av, cav, by omega, rfl, rfl, ⟨Q2.out, List.length_replicate, rightO_rep N⟩, hbel2⟩
  case round =>
    obtain ⟨k, T, at', ct, hkg, rfl, rfl, HT, hbel⟩ := hrel
    clear hbel2 Q2
    obtain ⟨W, hW⟩ : ∃ W, wr = W := ⟨_, rfl⟩
    rw [hW] at hbel HT ⊢
    clear hW wr
    have hbs := hbel.size
    by_cases hlt : k < l.length
    · obtain ⟨b1, o1, fr, id, who, rfl, hb1, _, c1, c2, c3⟩ := GripsAt.get3 HL.out hlt
      rw [← hbel.cell (p := ⟨b1, _, none⟩) hb1] at c1 c2 c3
      have hb1W : b1 < W.heap.size := by omega
      cases fr with
      | true =>
        as_aux_lemma =>
          obtain ⟨U, er, hU⟩ : ∃ U er, unlockT T id who = (U, er) := ⟨_, _, rfl⟩
          have HU := Lib.hid hU
          clear hU
          go_wp2
          go_region_held3 (fun w' => Below W.heap.size W w' ∧ (∀ b o, b < W.heap.size → w'.cell? ⟨b, o, none⟩ = W.cell? ⟨b, o, none⟩) ∧ ∀ b o, b < W.heap.size → w'.frozen? ⟨b, o, none⟩ = W.frozen? ⟨b, o, none⟩)
            (first | exact Keeps.atDraw _ | exact hB | exact Keeps.new hB _ | exact Keeps.new (by assumption) _)
            ((go_at_call 28; refine (mutex_unlock T _ id who _ (HT.out.1.below (Keeps.bel (by assumption))) (by rw [HT.out.2.1]; omega)).mono ?_; rintro e wa ⟨⟨va, rfl, qa⟩, hb⟩; rw [HU.out] at qa ⊢; have hB := Keeps.call hb (by assumption)))
          have hbW : Below W.heap.size W wa := Keeps.bel hB
          have HQA := Lib.hid qa
          clear hB hb qa
          rw [← hbW.cell (p := ⟨b1, _, none⟩) hb1W] at c1 c2 c3
          have hbsa := hbW.size
          have hb1a : b1 < wa.heap.size := by omega
          have hbela := bstep hbel (Nat.le_refl _) hbW
          have HTA := Lib.hid (HT.out.1.below hbW)
          have HTL := Lib.hid HT.out.2.1
          have HTR := Lib.hid HT.out.2.2
          clear HT hbW hbel hbs hb1W
          cases her : (er != 0) with
          | true =>
            go_wp2
            go_roundg (l.length - (k + 1))
            case measure => omega
            case rel => exact ⟨k + 1, T, at', ct, by omega, by go_num, rfl, ⟨HTA.out, HTL.out, HTR.out⟩, hbela⟩
          | false =>
            obtain rfl : er = 0 := by simpa using her
            clear her
            obtain ⟨q, rfl, hq, hTq, hUT⟩ := unlock_ok HU.out
            have HTQ := Lib.hid hTq
            have HUT := Lib.hid hUT
            have HUR := Lib.hid (rightO_set HTR.out q (Int.le_refl 0) (by decide : (0 : Int) ≤ 8))
            clear hTq hUT
            rw [HTL.out] at hq
            have HUL := Lib.hid (show U.length = N by rw [HUT.out, List.length_set]; exact HTL.out)
            have hvs : ∃ au cu, va = .slice au N cu := by obtain ⟨a', c', h', _⟩ := HQA.out; exact ⟨a', c', by rw [h', HUL.out]⟩
            obtain ⟨au, cu, rfl⟩ := hvs
            obtain ⟨b2, o2, rfl, hb2, c4⟩ := HTA.out.get (k := q) (by rw [HTL.out]; exact hq)
            obtain ⟨b3, o3, rfl, hb3, c5⟩ := HQA.out.get (k := q) (by rw [HUL.out]; exact hq)
            rw [HTQ.out] at c4
            rw [HUT.out, getD_setI, if_pos ⟨rfl, by rw [HTL.out]; exact hq⟩] at c5
            have HC1 := Lib.hid c1
            have HC3 := Lib.hid c3
            have HC4 := Lib.hid c4
            have HC5 := Lib.hid c5
            clear c1 c3 c4 c5
            have hz1 : decide (N ≤ q) = false := by simp; omega
            go_wp2
            go_loopg [9] N (fun g i wr => ∃ j : Nat, j + g = N ∧ i = .int .i64 j ∧ Below wa.heap.size wa wr)
            case atStart => exact ⟨0, by omega, rfl, Below.refl _ _⟩
            case round =>
              obtain ⟨j, hjg, rfl, hbel2⟩ := hrel
              have hbs2 := hbel2.size
              rw [← hbel2.cell (p := ⟨b1, _, none⟩) hb1a] at c2
              by_cases hjl : j < N
              · as_aux_lemma =>
                cases hj : ((j : Int) != (q : Int)) with
                | false =>
                  go_wp2
                  go_quiet (fail)
                  go_wp2
                  go_roundg (N - (j + 1))
                  case measure => omega
                  case rel => exact ⟨j + 1, by omega, by go_num, below_drewN hbel2 _⟩
                | true =>
                  obtain ⟨b4, o4, h4, hb4, c6⟩ := HTA.out.get (k := j) (by rw [HTL.out]; exact hjl)
                  obtain ⟨rfl, rfl⟩ : b2 = b4 ∧ o2 = o4 := by simpa using h4
                  obtain ⟨b5, o5, h5, hb5, c7⟩ := HQA.out.get (k := j) (by rw [HUL.out]; exact hjl)
                  obtain ⟨rfl, rfl⟩ : b3 = b5 ∧ o3 = o5 := by simpa using h5
                  have hqj : ¬ (q = j ∧ j < T.length) := fun h => by
                    rw [h.1] at hj
                    simp at hj
                  rw [HUT.out, getD_setI, if_neg hqj] at c7
                  obtain ⟨y, hy⟩ : ∃ y, T.getD j 0 = y := ⟨_, rfl⟩
                  rw [hy] at c6 c7
                  clear hy h4 h5 hqj hb4 hb5
                  rw [← hbel2.cell (p := ⟨b2, _, none⟩) hb2] at c6
                  rw [← hbel2.cell (p := ⟨b3, _, none⟩) hb3] at c7
                  have hjn : decide ((N : Int) ≤ j) = false := by simp; omega
                  go_wp2
                  go_quiet (fail)
                  go_wp2
                  go_roundg (N - (j + 1))
                  case measure => omega
                  case rel => exact ⟨j + 1, by omega, by go_num, below_drewN hbel2 _⟩
              · as_aux_lemma =>
                obtain rfl : j = N := by omega
                have c1 := HC1.out
                have c3 := HC3.out
                have c4 := HC4.out
                have c5 := HC5.out
                rw [← hbel2.cell (p := ⟨b1, _, none⟩) hb1a] at c1 c3
                rw [← hbel2.cell (p := ⟨b2, _, none⟩) hb2] at c4
                rw [← hbel2.cell (p := ⟨b3, _, none⟩) hb3] at c5
                clear hjl
                have hbr1 : b1 < wr.heap.size := by omega
                have hbr2 : b2 < wr.heap.size := by omega
                have hbr3 : b3 < wr.heap.size := by omega
                go_wp2
                refine wp_region_lex (fun w' => Below wr.heap.size wr w' ∧ (∀ b o, b < wr.heap.size → w'.cell? ⟨b, o, none⟩ = wr.cell? ⟨b, o, none⟩) ∧ ∀ b o, b < wr.heap.size → w'.frozen? ⟨b, o, none⟩ = wr.frozen? ⟨b, o, none⟩) (by kernel_rfl) (by kernel_rfl) (Keeps.atDraw _) ?_
                repeat (first
                  | (apply Lex.take
                     · rfl
                     · (intro w' hS; go_simp; exact ⟨rfl, hS⟩)
                     simp only [Act.put, List.setIfInBounds_toArray, List.set_cons_zero, List.set_cons_succ])
                  | (apply Lex.leave
                     · rfl
                     simp only [Act.put, List.setIfInBounds_toArray, List.set_cons_zero, List.set_cons_succ]))
                refine Lex.nil ?_
                intro w' hS
                have hbel3 := hbel2.trans (hS.1.mono hbs2)
                clear hS
                go_wp2
                go_roundg (l.length - (k + 1))
                case measure => omega
                case rel => exact ⟨k + 1, U, _, _, by omega, by go_num, rfl, ⟨HQA.out.below hbel3, HUL.out, by rw [HUT.out]; exact HUR.out⟩, bstep hbela (Nat.le_refl _) hbel3⟩

      | false =>
        as_aux_lemma =>
          obtain ⟨U, er, hU⟩ : ∃ U er, lockT T id who = (U, er) := ⟨_, _, rfl⟩
          have HU := Lib.hid hU
          clear hU
          go_wp2
          go_region_held3 (fun w' => Below W.heap.size W w' ∧ (∀ b o, b < W.heap.size → w'.cell? ⟨b, o, none⟩ = W.cell? ⟨b, o, none⟩) ∧ ∀ b o, b < W.heap.size → w'.frozen? ⟨b, o, none⟩ = W.frozen? ⟨b, o, none⟩)
            (first | exact Keeps.atDraw _ | exact hB | exact Keeps.new hB _ | exact Keeps.new (by assumption) _)
            ((go_at_call 27; refine (mutex_lock T _ id who _ (HT.out.1.below (Keeps.bel (by assumption))) (by rw [HT.out.2.1]; omega)).mono ?_; rintro e wa ⟨⟨va, rfl, qa⟩, hb⟩; rw [HU.out] at qa ⊢; have hB := Keeps.call hb (by assumption)))
          have hbW : Below W.heap.size W wa := Keeps.bel hB
          have HQA := Lib.hid qa
          clear hB hb qa
          rw [← hbW.cell (p := ⟨b1, _, none⟩) hb1W] at c1 c2 c3
          have hbsa := hbW.size
          have hb1a : b1 < wa.heap.size := by omega
          have hbela := bstep hbel (Nat.le_refl _) hbW
          have HTA := Lib.hid (HT.out.1.below hbW)
          have HTL := Lib.hid HT.out.2.1
          have HTR := Lib.hid HT.out.2.2
          clear HT hbW hbel hbs hb1W
          cases her : (er != 0) with
          | true =>
            go_wp2
            go_roundg (l.length - (k + 1))
            case measure => omega
            case rel => exact ⟨k + 1, T, at', ct, by omega, by go_num, rfl, ⟨HTA.out, HTL.out, HTR.out⟩, hbela⟩
          | false =>
            obtain rfl : er = 0 := by simpa using her
            clear her
            obtain ⟨q, rfl, hq, hTq, hUT, hw1, hw8⟩ := lock_ok HU.out
            have HTQ := Lib.hid hTq
            have HUT := Lib.hid hUT
            have HUR := Lib.hid (rightO_set HTR.out q (by omega : 0 ≤ who) hw8)
            clear hTq hUT hw1 hw8
            rw [HTL.out] at hq
            have HUL := Lib.hid (show U.length = N by rw [HUT.out, List.length_set]; exact HTL.out)
            have hvs : ∃ au cu, va = .slice au N cu := by obtain ⟨a', c', h', _⟩ := HQA.out; exact ⟨a', c', by rw [h', HUL.out]⟩
            obtain ⟨au, cu, rfl⟩ := hvs
            obtain ⟨b2, o2, rfl, hb2, c4⟩ := HTA.out.get (k := q) (by rw [HTL.out]; exact hq)
            obtain ⟨b3, o3, rfl, hb3, c5⟩ := HQA.out.get (k := q) (by rw [HUL.out]; exact hq)
            rw [HTQ.out] at c4
            rw [HUT.out, getD_setI, if_pos ⟨rfl, by rw [HTL.out]; exact hq⟩] at c5
            have HC1 := Lib.hid c1
            have HC3 := Lib.hid c3
            have HC4 := Lib.hid c4
            have HC5 := Lib.hid c5
            clear c1 c3 c4 c5
            have hz1 : decide (N ≤ q) = false := by simp; omega
            go_wp2
            go_loopg [9] N (fun g i wr => ∃ j : Nat, j + g = N ∧ i = .int .i64 j ∧ Below wa.heap.size wa wr)
            case atStart => exact ⟨0, by omega, rfl, Below.refl _ _⟩
            case round =>
              obtain ⟨j, hjg, rfl, hbel2⟩ := hrel
              have hbs2 := hbel2.size
              rw [← hbel2.cell (p := ⟨b1, _, none⟩) hb1a] at c2
              by_cases hjl : j < N
              · as_aux_lemma =>
                cases hj : ((j : Int) != (q : Int)) with
                | false =>
                  go_wp2
                  go_quiet (fail)
                  go_wp2
                  go_roundg (N - (j + 1))
                  case measure => omega
                  case rel => exact ⟨j + 1, by omega, by go_num, below_drewN hbel2 _⟩
                | true =>
                  obtain ⟨b4, o4, h4, hb4, c6⟩ := HTA.out.get (k := j) (by rw [HTL.out]; exact hjl)
                  obtain ⟨rfl, rfl⟩ : b2 = b4 ∧ o2 = o4 := by simpa using h4
                  obtain ⟨b5, o5, h5, hb5, c7⟩ := HQA.out.get (k := j) (by rw [HUL.out]; exact hjl)
                  obtain ⟨rfl, rfl⟩ : b3 = b5 ∧ o3 = o5 := by simpa using h5
                  have hqj : ¬ (q = j ∧ j < T.length) := fun h => by
                    rw [h.1] at hj
                    simp at hj
                  rw [HUT.out, getD_setI, if_neg hqj] at c7
                  obtain ⟨y, hy⟩ : ∃ y, T.getD j 0 = y := ⟨_, rfl⟩
                  rw [hy] at c6 c7
                  clear hy h4 h5 hqj hb4 hb5
                  rw [← hbel2.cell (p := ⟨b2, _, none⟩) hb2] at c6
                  rw [← hbel2.cell (p := ⟨b3, _, none⟩) hb3] at c7
                  have hjn : decide ((N : Int) ≤ j) = false := by simp; omega
                  go_wp2
                  go_quiet (fail)
                  go_wp2
                  go_roundg (N - (j + 1))
                  case measure => omega
                  case rel => exact ⟨j + 1, by omega, by go_num, below_drewN hbel2 _⟩
              · as_aux_lemma =>
                obtain rfl : j = N := by omega
                have c1 := HC1.out
                have c3 := HC3.out
                have c4 := HC4.out
                have c5 := HC5.out
                rw [← hbel2.cell (p := ⟨b1, _, none⟩) hb1a] at c1 c3
                rw [← hbel2.cell (p := ⟨b2, _, none⟩) hb2] at c4
                rw [← hbel2.cell (p := ⟨b3, _, none⟩) hb3] at c5
                clear hjl
                have hbr1 : b1 < wr.heap.size := by omega
                have hbr2 : b2 < wr.heap.size := by omega
                have hbr3 : b3 < wr.heap.size := by omega
                go_wp2
                refine wp_region_lex (fun w' => Below wr.heap.size wr w' ∧ (∀ b o, b < wr.heap.size → w'.cell? ⟨b, o, none⟩ = wr.cell? ⟨b, o, none⟩) ∧ ∀ b o, b < wr.heap.size → w'.frozen? ⟨b, o, none⟩ = wr.frozen? ⟨b, o, none⟩) (by kernel_rfl) (by kernel_rfl) (Keeps.atDraw _) ?_
                repeat (first
                  | (apply Lex.take
                     · rfl
                     · (intro w' hS; go_simp; exact ⟨rfl, hS⟩)
                     simp only [Act.put, List.setIfInBounds_toArray, List.set_cons_zero, List.set_cons_succ])
                  | (apply Lex.leave
                     · rfl
                     simp only [Act.put, List.setIfInBounds_toArray, List.set_cons_zero, List.set_cons_succ]))
                refine Lex.nil ?_
                intro w' hS
                have hbel3 := hbel2.trans (hS.1.mono hbs2)
                clear hS
                go_wp2
                go_roundg (l.length - (k + 1))
                case measure => omega
                case rel => exact ⟨k + 1, U, _, _, by omega, by go_num, rfl, ⟨HQA.out.below hbel3, HUL.out, by rw [HUT.out]; exact HUR.out⟩, bstep hbela (Nat.le_refl _) hbel3⟩

    · have HTR := Lib.hid HT.out.2.2
      go_wp2_with fail
      refine (mutex_right T _ _ HT.out.1).mono ?_
      rintro e w3 ⟨rfl, hb3⟩
      rw [HTR.out]
      go_wp2
      go_ret
      exact ⟨rfl, bstep hbel (Nat.le_refl _) hb3⟩

end Go.Proofs.Ytacmigimkdiagaa
