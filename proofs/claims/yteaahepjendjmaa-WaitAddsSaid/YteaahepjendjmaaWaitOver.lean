/- The walks of wait.Overtaken and of its reference. -/
import Derived.Test.YteaahepjendjmaaWaitSum
import Derived.Test.YteaahepjendjmaaStable
namespace Go.Proofs.Yteaahepjendjmaa
open Go.RowKit
set_option linter.unusedVariables false
set_option linter.unusedSimpArgs false

/-- Does one call overtake another one? -/
def overB (l : List Ev) (c d : Int × Int) : Bool := (d.1 != c.1) && decide (atT 1 c l < atT 1 d l) && (atT 3 c l == 0 || decide (atT 3 d l < atT 3 c l))
def overN (l : List Ev) (c : Int × Int) : Nat := if atT 1 c l = 0 then 0 else ((toldR l).filter (overB l c)).length
theorem overN_zero {l : List Ev} {c : Int × Int} (h : atT 1 c l = 0 ∨ rightB l = false) : overN l c = 0 := by
  unfold overN
  split
  · rfl
  · rcases h with h | h
    · contradiction
    · unfold toldR
      rw [h]
      rfl
theorem filterN_snoc {α : Type} (q : α → Bool) {l : List α} {k : Nat} {c : α} (h : l[k]? = some c) : ((l.take (k + 1)).filter q).length = ((l.take k).filter q).length + if q c = true then 1 else 0 := by
  rw [filter_snoc q h, List.length_append]
  cases q c <;> rfl
theorem spanR_some {l : List Ev} (c : Int × Int) : (spanR l c).isSome = (rightB l && decide (atT 1 c l ≠ 0)) := by
  unfold spanR
  cases hr : rightB l with
  | true => rw [if_pos rfl, spanG_some hr]; rfl
  | false => rfl

set_option maxHeartbeats 1600000 in
theorem wait_overtaken (l : List Ev) (v : Value) (c : Int × Int) (w : World) (hl : EvsAt w v l) (hlen : l.length ≤ 100000000) (hwf : ∀ e ∈ l, WfE e) (hwc : WfC c) :
    Calls Try.prog 30 #[v, callV c] w fun r w' => r = .returned (.int .i64 (overN l c : Nat)) ∧ Below w.heap.size w w' := by
  have HL := Lib.hid hl
  have HW := Lib.hid hwf
  have HWC := Lib.hid hwc
  clear hwf hwc
  obtain ⟨a, ca, rfl, hl1, hl2, hl3, hl4⟩ := hl
  clear hl3 hl4
  unfold maxLen at hl2
  go_enter Try.func30, Try.ntmps30
  go_wp2_with fail
  obtain ⟨W0, hW0⟩ : ∃ W0, w.alloc (.cells #[.int .i64 c.1, .int .i64 c.2] 31) = W0 := ⟨_, rfl⟩
  have d0 : W0.cell? ⟨w.heap.size, 0, none⟩ = some (.int .i64 c.1) := by rw [← hW0]; simp [go_sem]
  have d1 : W0.cell? ⟨w.heap.size, 1, none⟩ = some (.int .i64 c.2) := by rw [← hW0]; simp [go_sem]
  have hs0 : w.heap.size < W0.heap.size := by rw [← hW0]; simp
  have hbw : Below w.heap.size w W0 := by rw [← hW0]; exact (Below.refl _ _).alloc (Nat.le_refl _) _
  rw [hW0]
  clear hW0
  refine (wait_spans l _ _ (HL.out.below hbw) hlen HW.out).mono ?_
  rintro r w2 ⟨⟨B, v2, n2, rfl, hm, h2⟩, hb2⟩
  have hbel2 := bstep hbw (by omega) hb2
  rw [← hb2.cell (p := ⟨w.heap.size, _, none⟩) hs0] at d0 d1
  have hs2 : w.heap.size < w2.heap.size := by have := hb2.size; omega
  have hle2 := toldR_le l
  have HM := Lib.hid hm
  have H2 := Lib.hid h2
  obtain ⟨a2, ca2, rfl, hm1, hm2, hm3, hm4⟩ := h2
  clear hm hm3 hm4 hb2 hbw hs0
  unfold maxLen at hm2
  cases hr : (spanR l c).isSome with
  | false =>
    have HR := Lib.hid hr
    have hz : overN l c = 0 := overN_zero (by
      rw [spanR_some] at hr
      cases hb : rightB l with
      | false => exact .inr rfl
      | true => left; rw [hb] at hr; simpa using hr)
    have HZ := Lib.hid hz
    clear hr hz
    go_wp2_with (at_lookup; refine wpList_look_span_ok rfl _ _ rfl rfl HM.out c rfl HWC.out ?_; rw [HR.out])
    go_ret
    exact ⟨ret_int (by rw [HZ.out]; rfl), hbel2.alloc hbel2.size _⟩
  | true =>
    have HR := Lib.hid hr
    rw [spanR_some, Bool.and_eq_true, decide_eq_true_eq] at hr
    obtain ⟨hr, hz⟩ := hr
    have hsp : ∀ d, (spanR l d).getD (0, 0, 0) = (atT 1 d l, atT 2 d l, atT 3 d l) := fun d => by unfold spanR; rw [if_pos hr]; exact spanG_eq hr d
    have HSP := Lib.hid hsp
    have hN : overN l c = ((toldR l).filter (overB l c)).length := by unfold overN; rw [if_neg hz]
    have HN := Lib.hid hN
    clear hr hz hsp hN
    go_wp2_with (at_lookup; refine wpList_look_span_ok rfl _ _ rfl rfl HM.out c rfl HWC.out ?_; rw [HR.out, HSP.out])
    obtain ⟨W3, hW3⟩ : ∃ W3, w2.alloc (.cells #[.int .i64 (atT 1 c l), .int .i64 (atT 2 c l), .int .i64 (atT 3 c l)] 65) = W3 := ⟨_, rfl⟩
    have e0 : W3.cell? ⟨w2.heap.size, 0, none⟩ = some (.int .i64 (atT 1 c l)) := by rw [← hW3]; simp [go_sem]
    have e2 : W3.cell? ⟨w2.heap.size, 2, none⟩ = some (.int .i64 (atT 3 c l)) := by rw [← hW3]; simp [go_sem]
    have hs3 : w2.heap.size < W3.heap.size := by rw [← hW3]; simp
    have hbel3 : Below w2.heap.size w2 W3 := by rw [← hW3]; exact (Below.refl _ _).alloc (Nat.le_refl _) _
    rw [hW3]
    clear hW3
    go_loopw [9, 28] (fun n i wr => ∃ k : Nat, k ≤ (toldR l).length ∧ i = .int .i64 k ∧ n = .int .i64 ((((toldR l).take k).filter (overB l c)).length : Nat) ∧ Below W3.heap.size W3 wr) (fun _ i _ => (toldR l).length - (intOf i).toNat)
    case atStart => exact ⟨0, Nat.zero_le _, rfl, rfl, Below.refl _ _⟩
    case round =>
      obtain ⟨k, hk, rfl, rfl, hbel⟩ := hrel
      have hsz := hbel.size
      have hbelw := hbel3.trans (hbel.mono (by omega))
      rw [← hbel.cell (p := ⟨w2.heap.size, _, none⟩) hs3] at e0 e2
      rw [← hbelw.cell (p := ⟨w.heap.size, _, none⟩) hs2] at d0 d1
      by_cases hlt : k < (toldR l).length
      · obtain ⟨b1, o1, d, rfl, hb1, hkd, c1, c2⟩ := CallsAt.get2 H2.out hlt
        rw [← hbelw.cell (p := ⟨b1, _, none⟩) hb1] at c1 c2
        obtain ⟨hr, hwd, x1, x2, x3, x4⟩ := toldR_at HW.out (List.mem_of_getElem? hkd)
        have HWD := Lib.hid hwd
        have HS := Lib.hid (filterN_snoc (overB l c) hkd)
        have HMr := Lib.hid (HM.out.below hbelw)
        have hfl : (((toldR l).take k).filter (overB l c)).length ≤ k := Nat.le_trans (List.length_filter_le _ _) (List.length_take_le _ _)
        obtain ⟨m, hm⟩ : ∃ m, (((toldR l).take k).filter (overB l c)).length = m := ⟨_, rfl⟩
        rw [hm] at hfl HS
        simp only [hm]
        have hq1 : w2.heap.size < wr.heap.size := by omega
        have hq2 : w.heap.size < wr.heap.size := by omega
        have hov : overB l c d = ((d.1 != c.1) && decide (atT 1 c l < atT 1 d l) && (atT 3 c l == 0 || decide (atT 3 d l < atT 3 c l))) := rfl
        have HOV := Lib.hid hov
        clear hkd hwd hr x1 x2 x3 x4 hm hov
        cases h1 : (d.1 != c.1) with
        | false =>
          have hb : overB l c d = false := by rw [HOV.out, h1]; rfl
          have HB := Lib.hid hb
          clear hb
          go_wp2_with (at_lookup; refine wpList_look_span rfl _ _ rfl rfl (HMr.out.alloc _) d rfl HWD.out ?_; rw [HSP.out])
          exact ⟨⟨k + 1, hlt, by go_num, val_i (by rw [HS.out, HB.out]; rfl), (hbel.alloc hsz _).alloc (by simp; omega) _⟩, by simp [intOf]; omega⟩
        | true =>
          by_cases h2 : atT 1 c l < atT 1 d l
          · cases h3 : (atT 3 c l == 0) with
            | true =>
              have hb : overB l c d = true := by rw [HOV.out, h1, h3]; simp [h2]
              have HB := Lib.hid hb
              clear hb
              go_wp2_with (at_lookup; refine wpList_look_span rfl _ _ rfl rfl (HMr.out.alloc _) d rfl HWD.out ?_; rw [HSP.out])
              exact ⟨⟨k + 1, hlt, by go_num, val_i (by rw [HS.out, HB.out]; rfl), (hbel.alloc hsz _).alloc (by simp; omega) _⟩, by simp [intOf]; omega⟩
            | false =>
              by_cases h4 : atT 3 d l < atT 3 c l
              · have hb : overB l c d = true := by rw [HOV.out, h1, h3]; simp [h2, h4]
                have HB := Lib.hid hb
                clear hb
                go_wp2_with (at_lookup; refine wpList_look_span rfl _ _ rfl rfl (HMr.out.alloc _) d rfl HWD.out ?_; rw [HSP.out])
                exact ⟨⟨k + 1, hlt, by go_num, val_i (by rw [HS.out, HB.out]; rfl), (hbel.alloc hsz _).alloc (by simp; omega) _⟩, by simp [intOf]; omega⟩
              · have hb : overB l c d = false := by rw [HOV.out, h1, h3]; simp [h2, h4]
                have HB := Lib.hid hb
                clear hb
                go_wp2_with (at_lookup; refine wpList_look_span rfl _ _ rfl rfl (HMr.out.alloc _) d rfl HWD.out ?_; rw [HSP.out])
                exact ⟨⟨k + 1, hlt, by go_num, val_i (by rw [HS.out, HB.out]; rfl), (hbel.alloc hsz _).alloc (by simp; omega) _⟩, by simp [intOf]; omega⟩
          · have hb : overB l c d = false := by rw [HOV.out, h1]; simp [h2]
            have HB := Lib.hid hb
            clear hb
            go_wp2_with (at_lookup; refine wpList_look_span rfl _ _ rfl rfl (HMr.out.alloc _) d rfl HWD.out ?_; rw [HSP.out])
            exact ⟨⟨k + 1, hlt, by go_num, val_i (by rw [HS.out, HB.out]; rfl), (hbel.alloc hsz _).alloc (by simp; omega) _⟩, by simp [intOf]; omega⟩
      · obtain rfl : k = (toldR l).length := by omega
        rw [List.take_length]
        go_wp2
        go_ret
        exact ⟨ret_int (by rw [HN.out]), bstep hbel2 (Nat.le_refl _) hbelw⟩

set_option maxHeartbeats 8000000 in
theorem ref34_overtaken (l : List Ev) (v : Value) (c : Int × Int) (w : World) (hl : EvsAt w v l) (hlen : l.length ≤ 100000000) (hwf : ∀ e ∈ l, WfE e) :
    Calls Try.prog 31 #[v, callV c] w fun r w' => r = .returned (.int .i64 (overN l c : Nat)) ∧ Below w.heap.size w w' := by
  have HL := Lib.hid hl
  have HW := Lib.hid hwf
  clear hwf
  obtain ⟨a, ca, rfl, hl1, hl2, hl3, hl4⟩ := hl
  clear hl3 hl4
  unfold maxLen at hl2
  go_enter Try.func31, Try.ntmps31
  go_wp2_with fail
  obtain ⟨W0, hW0⟩ : ∃ W0, w.alloc (.cells #[.int .i64 c.1, .int .i64 c.2] 31) = W0 := ⟨_, rfl⟩
  have d0 : W0.cell? ⟨w.heap.size, 0, none⟩ = some (.int .i64 c.1) := by rw [← hW0]; simp [go_sem]
  have d1 : W0.cell? ⟨w.heap.size, 1, none⟩ = some (.int .i64 c.2) := by rw [← hW0]; simp [go_sem]
  have hs0 : w.heap.size < W0.heap.size := by rw [← hW0]; simp
  have hbw : Below w.heap.size w W0 := by rw [← hW0]; exact (Below.refl _ _).alloc (Nat.le_refl _) _
  rw [hW0]
  clear hW0
  refine (ref19_right l _ _ (HL.out.below hbw) hlen).mono ?_
  rintro r w1 ⟨rfl, hb1⟩
  have hbel1 := bstep hbw (by omega) hb1
  rw [← hb1.cell (p := ⟨w.heap.size, _, none⟩) hs0] at d0 d1
  have hs1 : w.heap.size < w1.heap.size := by have := hb1.size; omega
  have HL1 := Lib.hid (HL.out.below hbel1)
  clear hb1 hbw hs0
  cases hr : rightB l with
  | false =>
    have HZ := Lib.hid (overN_zero (c := c) (.inr hr))
    clear hr
    go_wp2
    go_ret
    exact ⟨ret_int (by rw [HZ.out]; rfl), hbel1⟩
  | true =>
    have HR := Lib.hid hr
    clear hr
    go_wp2_with fail
    refine (ref34_at l _ 1 c _ HL1.out).mono ?_
    rintro r w2 ⟨rfl, hb2⟩
    have hbel2 := bstep hbel1 (by omega) hb2
    rw [← hb2.cell (p := ⟨w.heap.size, _, none⟩) hs1] at d0 d1
    have hs2 : w.heap.size < w2.heap.size := by have := hb2.size; omega
    have HL2 := Lib.hid (HL1.out.below hb2)
    clear hb2 hbel1
    cases hz : (atT 1 c l == 0) with
    | true =>
      have HZ := Lib.hid (overN_zero (c := c) (.inl (by simpa using hz)))
      go_wp2
      go_ret
      exact ⟨ret_int (by rw [HZ.out]; rfl), hbel2⟩
    | false =>
      have hN : overN l c = ((toldR l).filter (overB l c)).length := by unfold overN; rw [if_neg (by simpa using hz)]
      have HN := Lib.hid hN
      clear hN
      go_wp2_with fail
      refine (ref19_all l _ 3 _ HL2.out hlen).mono ?_
      rintro r w3 ⟨⟨v3, rfl, h3⟩, hb3⟩
      rw [show callsE (isK 3) l = toldR l from by unfold toldR; rw [HR.out]; rfl] at h3
      have hbel3 := bstep hbel2 (by omega) hb3
      rw [← hb3.cell (p := ⟨w.heap.size, _, none⟩) hs2] at d0 d1
      have hs3 : w.heap.size < w3.heap.size := by have := hb3.size; omega
      have HL3 := Lib.hid (HL2.out.below hb3)
      have hle2 := toldR_le l
      have H2 := Lib.hid h3
      obtain ⟨a2, ca2, rfl, hm1, hm2, hm3, hm4⟩ := h3
      clear hm3 hm4 hb3 hbel2 hz
      unfold maxLen at hm2
      go_wp2
      go_loopw [5, 7] (fun n i wr => ∃ k : Nat, k ≤ (toldR l).length ∧ i = .int .i64 k ∧ n = .int .i64 ((((toldR l).take k).filter (overB l c)).length : Nat) ∧ Below w3.heap.size w3 wr) (fun _ i _ => (toldR l).length - (intOf i).toNat)
      case atStart => exact ⟨0, Nat.zero_le _, rfl, rfl, Below.refl _ _⟩
      case round =>
        obtain ⟨k, hk, rfl, rfl, hbel⟩ := hrel
        have hsz := hbel.size
        rw [← hbel.cell (p := ⟨w.heap.size, _, none⟩) hs3] at d0 d1
        by_cases hlt : k < (toldR l).length
        · obtain ⟨b1, o1, d, rfl, hb1, hkd, c1, c2⟩ := CallsAt.get2 H2.out hlt
          rw [← hbel.cell (p := ⟨b1, _, none⟩) hb1] at c1 c2
          have hb1r : b1 < wr.heap.size := by omega
          have hq2 : w.heap.size < wr.heap.size := by omega
          have HLr := Lib.hid (HL3.out.below hbel)
          have HS := Lib.hid (filterN_snoc (overB l c) hkd)
          have hfl : (((toldR l).take k).filter (overB l c)).length ≤ k := Nat.le_trans (List.length_filter_le _ _) (List.length_take_le _ _)
          obtain ⟨m, hm⟩ : ∃ m, (((toldR l).take k).filter (overB l c)).length = m := ⟨_, rfl⟩
          rw [hm] at hfl HS
          simp only [hm]
          have hov : overB l c d = ((d.1 != c.1) && decide (atT 1 c l < atT 1 d l) && (atT 3 c l == 0 || decide (atT 3 d l < atT 3 c l))) := rfl
          have HOV := Lib.hid hov
          have i0 : (0 : Int) ≤ (k : Int) := by omega
          have i1 : (k : Int) < (toldR l).length := by omega
          clear hkd hm hov
          cases h1 : (d.1 != c.1) with
          | false =>
            have hb : overB l c d = false := by rw [HOV.out, h1]; rfl
            have HB := Lib.hid hb
            clear hb
            go_wp2
            go_quiet (fail)
            go_wp2
            exact ⟨⟨k + 1, hlt, by go_num, val_i (by rw [HS.out, HB.out]; rfl), below_drewN hbel _⟩, by simp [intOf]; omega⟩
          | true =>
            cases h2 : decide (atT 1 c l < atT 1 d l) with
            | true =>
              have h2' : atT 1 c l < atT 1 d l := by simpa using h2
              cases h3 : (atT 3 c l == 0) with
              | true =>
                have hb : overB l c d = true := by rw [HOV.out, h1, h2, h3]; rfl
                have HB := Lib.hid hb
                clear hb
                go_wp2
                refine wp_region_lex (fun w' => Below wr.heap.size wr w' ∧ (∀ b o, b < wr.heap.size → w'.cell? ⟨b, o, none⟩ = wr.cell? ⟨b, o, none⟩) ∧ ∀ b o, b < wr.heap.size → w'.frozen? ⟨b, o, none⟩ = wr.frozen? ⟨b, o, none⟩) (by kernel_rfl) (by kernel_rfl) (Keeps.atDraw _) ?_
                repeat (first
                  | (apply Lex.take
                     · rfl
                     · (intro w' hS; go_simp; first | exact ⟨rfl, hS⟩ | (apply StepsTo.enter; (with_reducible apply Calls.mono (ref34_at l _ _ c _ (HLr.out.below hS.1))); rintro r w5 ⟨rfl, hb⟩; exact ⟨rfl, Keeps.call hb hS⟩) | (apply StepsTo.enter; (with_reducible apply Calls.mono (ref34_at l _ _ d _ (HLr.out.below hS.1))); rintro r w5 ⟨rfl, hb⟩; exact ⟨rfl, Keeps.call hb hS⟩))
                     simp only [Act.put, List.setIfInBounds_toArray, List.set_cons_zero, List.set_cons_succ])
                  | (apply Lex.leave
                     · rfl
                     simp only [Act.put, List.setIfInBounds_toArray, List.set_cons_zero, List.set_cons_succ]))
                refine Lex.nil ?_; intro w' hS
                obtain ⟨hbW, _, _⟩ := hS
                go_wp2
                exact ⟨⟨k + 1, hlt, by go_num, val_i (by rw [HS.out, HB.out]; rfl), hbel.trans (hbW.mono hsz)⟩, by simp [intOf]; omega⟩
              | false =>
                cases h4 : decide (atT 3 d l < atT 3 c l) with
                | true =>
                  have h4' : atT 3 d l < atT 3 c l := by simpa using h4
                  have hb : overB l c d = true := by rw [HOV.out, h1, h2, h3, h4]; rfl
                  have HB := Lib.hid hb
                  clear hb
                  go_wp2
                  refine wp_region_lex (fun w' => Below wr.heap.size wr w' ∧ (∀ b o, b < wr.heap.size → w'.cell? ⟨b, o, none⟩ = wr.cell? ⟨b, o, none⟩) ∧ ∀ b o, b < wr.heap.size → w'.frozen? ⟨b, o, none⟩ = wr.frozen? ⟨b, o, none⟩) (by kernel_rfl) (by kernel_rfl) (Keeps.atDraw _) ?_
                  repeat (first
                    | (apply Lex.take
                       · rfl
                       · (intro w' hS; go_simp; first | exact ⟨rfl, hS⟩ | (apply StepsTo.enter; (with_reducible apply Calls.mono (ref34_at l _ _ c _ (HLr.out.below hS.1))); rintro r w5 ⟨rfl, hb⟩; exact ⟨rfl, Keeps.call hb hS⟩) | (apply StepsTo.enter; (with_reducible apply Calls.mono (ref34_at l _ _ d _ (HLr.out.below hS.1))); rintro r w5 ⟨rfl, hb⟩; exact ⟨rfl, Keeps.call hb hS⟩))
                       simp only [Act.put, List.setIfInBounds_toArray, List.set_cons_zero, List.set_cons_succ])
                    | (apply Lex.leave
                       · rfl
                       simp only [Act.put, List.setIfInBounds_toArray, List.set_cons_zero, List.set_cons_succ]))
                  refine Lex.nil ?_; intro w' hS
                  obtain ⟨hbW, _, _⟩ := hS
                  go_wp2
                  exact ⟨⟨k + 1, hlt, by go_num, val_i (by rw [HS.out, HB.out]; rfl), hbel.trans (hbW.mono hsz)⟩, by simp [intOf]; omega⟩
                | false =>
                  have h4' : ¬ atT 3 d l < atT 3 c l := by simpa using h4
                  have hb : overB l c d = false := by rw [HOV.out, h1, h2, h3, h4]; rfl
                  have HB := Lib.hid hb
                  clear hb
                  go_wp2
                  refine wp_region_lex (fun w' => Below wr.heap.size wr w' ∧ (∀ b o, b < wr.heap.size → w'.cell? ⟨b, o, none⟩ = wr.cell? ⟨b, o, none⟩) ∧ ∀ b o, b < wr.heap.size → w'.frozen? ⟨b, o, none⟩ = wr.frozen? ⟨b, o, none⟩) (by kernel_rfl) (by kernel_rfl) (Keeps.atDraw _) ?_
                  repeat (first
                    | (apply Lex.take
                       · rfl
                       · (intro w' hS; go_simp; first | exact ⟨rfl, hS⟩ | (apply StepsTo.enter; (with_reducible apply Calls.mono (ref34_at l _ _ c _ (HLr.out.below hS.1))); rintro r w5 ⟨rfl, hb⟩; exact ⟨rfl, Keeps.call hb hS⟩) | (apply StepsTo.enter; (with_reducible apply Calls.mono (ref34_at l _ _ d _ (HLr.out.below hS.1))); rintro r w5 ⟨rfl, hb⟩; exact ⟨rfl, Keeps.call hb hS⟩))
                       simp only [Act.put, List.setIfInBounds_toArray, List.set_cons_zero, List.set_cons_succ])
                    | (apply Lex.leave
                       · rfl
                       simp only [Act.put, List.setIfInBounds_toArray, List.set_cons_zero, List.set_cons_succ]))
                  refine Lex.nil ?_; intro w' hS
                  obtain ⟨hbW, _, _⟩ := hS
                  go_wp2
                  exact ⟨⟨k + 1, hlt, by go_num, val_i (by rw [HS.out, HB.out]; rfl), hbel.trans (hbW.mono hsz)⟩, by simp [intOf]; omega⟩
            | false =>
              have h2' : ¬ atT 1 c l < atT 1 d l := by simpa using h2
              have hb : overB l c d = false := by rw [HOV.out, h1, h2]; rfl
              have HB := Lib.hid hb
              clear hb
              go_wp2
              refine wp_region_lex (fun w' => Below wr.heap.size wr w' ∧ (∀ b o, b < wr.heap.size → w'.cell? ⟨b, o, none⟩ = wr.cell? ⟨b, o, none⟩) ∧ ∀ b o, b < wr.heap.size → w'.frozen? ⟨b, o, none⟩ = wr.frozen? ⟨b, o, none⟩) (by kernel_rfl) (by kernel_rfl) (Keeps.atDraw _) ?_
              repeat (first
                | (apply Lex.take
                   · rfl
                   · (intro w' hS; go_simp; first | exact ⟨rfl, hS⟩ | (apply StepsTo.enter; (with_reducible apply Calls.mono (ref34_at l _ _ c _ (HLr.out.below hS.1))); rintro r w5 ⟨rfl, hb⟩; exact ⟨rfl, Keeps.call hb hS⟩) | (apply StepsTo.enter; (with_reducible apply Calls.mono (ref34_at l _ _ d _ (HLr.out.below hS.1))); rintro r w5 ⟨rfl, hb⟩; exact ⟨rfl, Keeps.call hb hS⟩))
                   simp only [Act.put, List.setIfInBounds_toArray, List.set_cons_zero, List.set_cons_succ])
                | (apply Lex.leave
                   · rfl
                   simp only [Act.put, List.setIfInBounds_toArray, List.set_cons_zero, List.set_cons_succ]))
              refine Lex.nil ?_; intro w' hS
              obtain ⟨hbW, _, _⟩ := hS
              go_wp2
              exact ⟨⟨k + 1, hlt, by go_num, val_i (by rw [HS.out, HB.out]; rfl), hbel.trans (hbW.mono hsz)⟩, by simp [intOf]; omega⟩
        · obtain rfl : k = (toldR l).length := by omega
          rw [List.take_length]
          go_wp2
          go_ret
          exact ⟨ret_int (by rw [HN.out]), bstep hbel3 (by omega) hbel⟩

end Go.Proofs.Yteaahepjendjmaa
