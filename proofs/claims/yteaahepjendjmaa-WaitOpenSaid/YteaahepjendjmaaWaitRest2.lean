/- The walks of wait.Rest and of its reference. -/
import Derived.Test.YteaahepjendjmaaWaitOver
import Derived.Test.YteaahepjendjmaaWaitRest
namespace Go.Proofs.Yteaahepjendjmaa
open Go.RowKit
set_option linter.unusedVariables false
set_option linter.unusedSimpArgs false

set_option maxHeartbeats 1600000 in
theorem ref34_rest (l : List Ev) (v : Value) (who : Int) (w : World) (hl : EvsAt w v l) (hlen : l.length ≤ 100000000) (hwf : ∀ e ∈ l, WfE e) :
    Calls Try.prog 33 #[v, .int .i64 who] w fun r w' => r = .returned (.int .i64 (restM who l)) ∧ Below w.heap.size w w' := by
  have HL := Lib.hid hl
  have HW := Lib.hid hwf
  clear hwf
  obtain ⟨a, ca, rfl, hl1, hl2, hl3, hl4⟩ := hl
  clear hl3 hl4
  unfold maxLen at hl2
  go_enter Try.func33, Try.ntmps33
  go_wp2_with fail
  refine (ref19_right l _ _ HL.out hlen).mono ?_
  rintro r w2 ⟨rfl, hbel2⟩
  have HL2 := Lib.hid (HL.out.below hbel2)
  cases hr : rightB l with
  | false =>
    have hm : restM who l = 0 := by unfold restM; rw [hr]; rfl
    have HM := Lib.hid hm
    clear hm hr
    go_wp2
    go_ret
    exact ⟨ret_int HM.out.symm, hbel2⟩
  | true =>
    have hm : restM who l = (restS who l).1 := by unfold restM; rw [hr]; rfl
    have HM := Lib.hid hm
    have HR := Lib.hid hr
    clear hm hr
    go_wp2
    go_loopw [5, 6, 7] (fun n m i wr => ∃ k : Nat, k ≤ l.length ∧ i = .int .i64 k ∧ n = .int .i64 (restS who (l.take k)).1 ∧ m = .int .i64 (restS who (l.take k)).2 ∧ Below w2.heap.size w2 wr) (fun _ _ i _ => l.length - (intOf i).toNat)
    case atStart => exact ⟨0, Nat.zero_le _, rfl, rfl, rfl, Below.refl _ _⟩
    case round =>
      obtain ⟨k, hk, rfl, rfl, rfl, hbel⟩ := hrel
      have hsz := hbel.size
      have hbd := restS_bd HR.out who k hk
      by_cases hlt : k < l.length
      · obtain ⟨b1, o1, e, rfl, hb1, hke, c1, c2, c3, c4⟩ := EvsAt.get4 HL2.out hlt
        rw [← hbel.cell (p := ⟨b1, _, none⟩) hb1] at c1 c2 c3 c4
        have HS := Lib.hid (restS_snoc (who := who) hke)
        have hwas := restS_was HR.out who hke
        have hwe := (HW.out e (List.mem_of_getElem? hke)).2.2.2
        have hte : e.t ≤ 9223372036854775807 := by
          simp only [Lit.wf, Bool.and_eq_true, decide_eq_true_eq] at hwe
          exact hwe.2
        obtain ⟨z, hz⟩ : ∃ z, restS who (l.take k) = z := ⟨_, rfl⟩
        rw [hz] at hbd hwas ⊢
        have HZ := Lib.hid hz
        obtain ⟨ek, ew, en, et⟩ := e
        obtain ⟨z1, z2⟩ := z
        obtain ⟨p1, p2⟩ := hbd
        obtain ⟨q1, q2⟩ := hwas
        simp only at c1 c2 c3 c4 p1 p2 q1 q2 hte ⊢
        clear hke hwe hz
        cases hd : (ew == who) with
        | false =>
          have hne : (ew != who) = true := by simpa using hd
          have hst : restS who (l.take (k + 1)) = (z1, z2) := by rw [HS.out, HZ.out]; unfold restStep; rw [if_neg (by simpa using hd)]
          have HST := Lib.hid hst
          clear hst
          go_wp2
          exact ⟨⟨k + 1, hlt, by go_num, val_i (by rw [HST.out]), val_i (by rw [HST.out]), hbel⟩, by simp [intOf]; omega⟩
        | true =>
          have hne : (ew != who) = false := by simpa using hd
          cases hk1 : (ek == 1) with
          | true =>
            have hk3 : (ek == 3) = false := by
              have : ek = 1 := by simpa using hk1
              subst this
              rfl
            by_cases hz0 : 0 < z2
            · have hst : restS who (l.take (k + 1)) = (addS z1 (et - z2), z2) := by rw [HS.out, HZ.out]; unfold restStep; rw [if_pos (by simpa using hd), if_pos ⟨by simpa using hk1, hz0⟩, if_neg (by simpa using hk3)]
              have HST := Lib.hid hst
              have P1 : Hid (0 ≤ z1 ∧ z1 ≤ 4611686018427387904) := ⟨p1, p2⟩
              have Q1 : Hid (0 ≤ et - z2 ∧ et - z2 ≤ 9223372036854775807) := ⟨by omega, by omega⟩
              clear hst
              go_wp2_with (go_at_call 44; refine (ref34_add z1 (et - z2) _ P1.out Q1.out).mono ?_; rintro e w' ⟨rfl, rfl⟩)
              exact ⟨⟨k + 1, hlt, by go_num, val_i (by rw [HST.out]), val_i (by rw [HST.out]), hbel⟩, by simp [intOf]; omega⟩
            · have hst : restS who (l.take (k + 1)) = (z1, z2) := by rw [HS.out, HZ.out]; unfold restStep; rw [if_pos (by simpa using hd), if_neg (fun h => hz0 h.2), if_neg (by simpa using hk3)]
              have HST := Lib.hid hst
              clear hst
              go_wp2
              exact ⟨⟨k + 1, hlt, by go_num, val_i (by rw [HST.out]), val_i (by rw [HST.out]), hbel⟩, by simp [intOf]; omega⟩
          | false =>
            cases hk3 : (ek == 3) with
            | true =>
              have hst : restS who (l.take (k + 1)) = (z1, et) := by rw [HS.out, HZ.out]; unfold restStep; rw [if_pos (by simpa using hd), if_neg (fun h => absurd h.1 (by simpa using hk1)), if_pos (by simpa using hk3)]
              have HST := Lib.hid hst
              clear hst
              go_wp2
              exact ⟨⟨k + 1, hlt, by go_num, val_i (by rw [HST.out]), val_i (by rw [HST.out]), hbel⟩, by simp [intOf]; omega⟩
            | false =>
              have hst : restS who (l.take (k + 1)) = (z1, z2) := by rw [HS.out, HZ.out]; unfold restStep; rw [if_pos (by simpa using hd), if_neg (fun h => absurd h.1 (by simpa using hk1)), if_neg (by simpa using hk3)]
              have HST := Lib.hid hst
              clear hst
              go_wp2
              exact ⟨⟨k + 1, hlt, by go_num, val_i (by rw [HST.out]), val_i (by rw [HST.out]), hbel⟩, by simp [intOf]; omega⟩
      · obtain rfl : k = l.length := by omega
        rw [List.take_length]
        go_wp2
        go_ret
        exact ⟨ret_int (by rw [HM.out]), bstep hbel2 (Nat.le_refl _) hbel⟩

set_option maxHeartbeats 1600000 in
theorem wait_rest (l : List Ev) (v : Value) (who : Int) (w : World) (hl : EvsAt w v l) (hlen : l.length ≤ 100000000) (hwf : ∀ e ∈ l, WfE e) (hww : (Lit.int .i64 who).wf = true) :
    Calls Try.prog 32 #[v, .int .i64 who] w fun r w' => r = .returned (.int .i64 (restM who l)) ∧ Below w.heap.size w w' := by
  have HL := Lib.hid hl
  have HW := Lib.hid hwf
  have HWW := Lib.hid hww
  clear hwf hww
  obtain ⟨a, ca, rfl, hl1, hl2, hl3, hl4⟩ := hl
  clear hl3 hl4
  unfold maxLen at hl2
  go_enter Try.func32, Try.ntmps32
  go_wp2_with fail
  refine (wait_spans l _ _ HL.out hlen HW.out).mono ?_
  rintro r w2 ⟨⟨B, v2, n2, rfl, hm, h2⟩, hbel2⟩
  obtain ⟨a2, ca2, rfl, hm1, hm2, hm3, hm4⟩ := h2
  have HM := Lib.hid hm
  clear hm hm1 hm2 hm3 hm4
  cases hr : rightB l with
  | false =>
    have hz : restM who l = 0 := by unfold restM; rw [hr]; rfl
    have HZ := Lib.hid hz
    have hsp : ∀ c, (spanR l c).isSome = false := fun c => by rw [spanR_some, hr]; rfl
    have HSP := Lib.hid hsp
    have HWC : Hid (WfC (who, 2)) := ⟨HWW.out, WalkArith.wf_i64 (by simp only; omega)⟩
    clear hr hz hsp
    go_wp2
    go_loopw [7, 8] (fun n m wr => n = .int .i64 0 ∧ m = .int .i64 2 ∧ Below w2.heap.size w2 wr) (fun _ _ _ => 0)
    case atStart => exact ⟨rfl, rfl, Below.refl _ _⟩
    case round =>
      obtain ⟨rfl, rfl, hbel⟩ := hrel
      have HMr := Lib.hid (HM.out.below hbel)
      go_wp2_with (at_lookup; refine wpList_look_span_ok rfl _ _ rfl rfl HMr.out (who, 2) rfl HWC.out ?_; rw [HSP.out])
      go_ret
      exact ⟨ret_int HZ.out.symm, bstep hbel2 (Nat.le_refl _) (hbel.alloc hbel.size _)⟩
  | true =>
    have hz : restM who l = restR who l (begun who l) := restM_eq hr who
    have HZ := Lib.hid hz
    have HR := Lib.hid hr
    have hsp : ∀ m : Nat, 1 ≤ m → (spanR l (who, (m : Int))).isSome = decide (m ≤ begun who l) := fun m hm => by
      rw [spanR_some, hr, Bool.true_and, Bool.eq_iff_iff, decide_eq_true_iff, decide_eq_true_iff]
      exact begun_iff hr who m hm
    have HSP := Lib.hid hsp
    have hgd : ∀ c, (spanR l c).getD (0, 0, 0) = (atT 1 c l, atT 2 c l, atT 3 c l) := fun d => by unfold spanR; rw [if_pos hr]; exact spanG_eq hr d
    have HGD := Lib.hid hgd
    have hbl := begun_le who l
    obtain ⟨N, hN⟩ : ∃ N, begun who l = N := ⟨_, rfl⟩
    have HN := Lib.hid hN
    rw [hN] at hbl
    clear hr hz hsp hgd hN
    go_wp2
    go_loopw [7, 8] (fun n i wr => ∃ m : Nat, 2 ≤ m ∧ (m = 2 ∨ m - 1 ≤ N) ∧ i = .int .i64 m ∧ n = .int .i64 (restR who l (m - 1)) ∧ Below w2.heap.size w2 wr) (fun _ i _ => N + 2 - (intOf i).toNat)
    case atStart => exact ⟨2, by omega, .inl rfl, rfl, rfl, Below.refl _ _⟩
    case round =>
      obtain ⟨m, hm2, hmN, rfl, rfl, hbel⟩ := hrel
      have hsz := hbel.size
      have HMr := Lib.hid (HM.out.below hbel)
      have HWC : Hid (WfC (who, (m : Int))) := ⟨HWW.out, WalkArith.wf_i64 (by simp only; omega)⟩
      by_cases hle : m ≤ N
      · have hs : (spanR l (who, (m : Int))).isSome = true := by rw [HSP.out m (by omega), HN.out]; simpa using hle
        have HS := Lib.hid hs
        have hp := begun_prev HR.out who m hm2 (by rw [HN.out]; exact hle)
        have hrb := restR_bd HR.out who (m - 1) (by rw [HN.out]; omega)
        have hat := atT_le HW.out 1 (who, (m : Int))
        have hcast : ((m - 1 : Nat) : Int) = (m : Int) - 1 := by omega
        rw [hcast] at hp
        have hnx : restR who l m = addS (restR who l (m - 1)) (atT 1 (who, (m : Int)) l - atT 3 (who, (m : Int) - 1) l) := by
          obtain ⟨q, rfl⟩ : ∃ q, m = q + 2 := ⟨m - 2, by omega⟩
          rw [← hcast]
          rfl
        have HNX := Lib.hid hnx
        have HWC1 : Hid (WfC (who, (m : Int) - 1)) := ⟨HWW.out, WalkArith.wf_i64 (by simp only; omega)⟩
        obtain ⟨z, hzz⟩ : ∃ z, restR who l (m - 1) = z := ⟨_, rfl⟩
        rw [hzz] at hrb HNX
        simp only [hzz]
        obtain ⟨x, hx⟩ : ∃ x, atT 1 (who, (m : Int)) l = x := ⟨_, rfl⟩
        obtain ⟨y, hy⟩ : ∃ y, atT 3 (who, (m : Int) - 1) l = y := ⟨_, rfl⟩
        rw [hx, hy] at hp
        rw [hx] at hat
        rw [hx, hy] at HNX
        have HX := Lib.hid hx
        have HY := Lib.hid hy
        obtain ⟨hp1, hp2⟩ := hp
        obtain ⟨hr1, hr2⟩ := hrb
        obtain ⟨hat1, hat2⟩ := hat
        have P1 : Hid (0 ≤ z ∧ z ≤ 4611686018427387904) := ⟨hr1, hr2⟩
        have Q1 : Hid (0 ≤ x - y ∧ x - y ≤ 9223372036854775807) := ⟨by omega, by omega⟩
        have wa : IntKind.i64.wrap (x - y) = x - y := IntWalk.i64_in _ (by omega)
        have wb : IntKind.i64.wrap ((m : Int) - 1) = (m : Int) - 1 := IntWalk.i64_in _ (by omega)
        clear hs hnx hcast hzz hx hy
        go_wp2_with (at_lookup; refine wpList_look_span_ok rfl _ _ rfl rfl HMr.out (who, (m : Int)) rfl HWC.out ?_; rw [HS.out, HGD.out, HX.out])
        obtain ⟨W3, hW3⟩ : ∃ W3, wr.alloc (.cells #[.int .i64 x, .int .i64 (atT 2 (who, (m : Int)) l), .int .i64 (atT 3 (who, (m : Int)) l)] 65) = W3 := ⟨_, rfl⟩
        have e0 : W3.cell? ⟨wr.heap.size, 0, none⟩ = some (.int .i64 x) := by rw [← hW3]; simp [go_sem]
        have hs3 : wr.heap.size < W3.heap.size := by rw [← hW3]; simp
        have hbel3 : Below w2.heap.size w2 W3 := by rw [← hW3]; exact hbel.alloc hsz _
        have HM3 : Hid (SpanMap W3 B n2 (spanR l)) := by rw [← hW3]; exact HMr.out.alloc _
        rw [hW3]
        clear hW3
        refine wp_region_lex (fun w' => Below W3.heap.size W3 w' ∧ (∀ b o, b < W3.heap.size → w'.cell? ⟨b, o, none⟩ = W3.cell? ⟨b, o, none⟩) ∧ ∀ b o, b < W3.heap.size → w'.frozen? ⟨b, o, none⟩ = W3.frozen? ⟨b, o, none⟩) (by kernel_rfl) (by kernel_rfl) (Keeps.atDraw _) ?_
        repeat (first
          | (apply Lex.take
             · rfl
             · (intro w' hS; have hrun := (HM3.out.below hS.1).run HWC1.out; rw [HGD.out, HY.out] at hrun; go_simp; first | exact ⟨rfl, hS⟩ | (apply StepsTo.enter; (with_reducible apply Calls.mono (wait_add z (x - y) _ P1.out Q1.out)); rintro r w5 ⟨rfl, rfl⟩; exact ⟨rfl, hS⟩))
             simp only [Act.put, List.setIfInBounds_toArray, List.set_cons_zero, List.set_cons_succ]))
        refine Lex.nil ?_
        intro w' hS
        obtain ⟨hbW, _, _⟩ := hS
        clear wa wb
        go_wp2
        exact ⟨⟨m + 1, by omega, .inr (by omega), by go_num, val_i (by rw [show m + 1 - 1 = m from rfl, HNX.out]), hbel3.trans (hbW.mono hbel3.size)⟩, by simp [intOf]; omega⟩
      · have hs : (spanR l (who, (m : Int))).isSome = false := by rw [HSP.out m (by omega), HN.out]; simpa using hle
        have HS := Lib.hid hs
        have hfin : restR who l (m - 1) = restR who l N := by
          rcases hmN with rfl | hmN
          · rcases (show N = 0 ∨ N = 1 by omega) with rfl | rfl <;> rfl
          · rw [show m - 1 = N from by omega]
        have HF := Lib.hid hfin
        clear hs hfin
        go_wp2_with (at_lookup; refine wpList_look_span_ok rfl _ _ rfl rfl HMr.out (who, (m : Int)) rfl HWC.out ?_; rw [HS.out])
        go_ret
        exact ⟨ret_int (by rw [HZ.out, HN.out, HF.out]), bstep hbel2 (Nat.le_refl _) (hbel.alloc hsz _)⟩

end Go.Proofs.Yteaahepjendjmaa
