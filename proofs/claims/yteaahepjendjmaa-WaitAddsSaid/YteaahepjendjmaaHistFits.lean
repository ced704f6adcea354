/- The walk of hist.Fits. -/
import Derived.Test.YteaahepjendjmaaHistKeys
import Derived.Test.YteaahepjendjmaaHistLaws
import Derived.Maps.OwnSet
import Derived.Deep.DeepMust

namespace Go.Proofs.Yteaahepjendjmaa
open Go.RowKit Go.Maps
set_option linter.unusedVariables false
set_option linter.unusedSimpArgs false

theorem zeroInt (w : World) : (zeroValue 3).run Try.prog w = .ok (.int .i64 0) w := by kernel_rfl
theorem Below.ownsMap {H : Type} {w w' : World} {P : Program} {k : TypeId} {R : Value → Option (DataW H × List MemPlace)} {b n : Nat} {D : DataW H} (hb : Below w.heap.size w w') (h : w.ownsMap P k R b n D) : w'.ownsMap P k R b n D :=
  h.kept (row := none) ⟨hb.os, hb.tape, hb.output, hb.size, fun j hj _ => hb.block j hj⟩ (by simp)
/-- Numbers that fit their kind. -/
def WfC (c : Int × Int) : Prop := (Lit.int .i64 c.1).wf = true ∧ (Lit.int .i64 c.2).wf = true
theorem callKey_inj {c d : Int × Int} (hc : WfC c) (hd : WfC d) (h : callKey c = callKey d) : c = d := by
  have h1 := callKey_of c hc.1 hc.2
  have h2 := callKey_of d hd.1 hd.2
  rw [h] at h1
  have h3 := lawCall.inj h1 h2
  simp only [Value.agg.injEq] at h3
  have h4 := congrArg Array.toList h3
  simp at h4
  exact Prod.ext h4.1 h4.2
theorem take_succ_mem {o : List (Int × Int)} {k : Nat} {c : Int × Int} (h : o[k]? = some c) (d : Int × Int) : d ∈ o.take (k + 1) ↔ d ∈ o.take k ∨ d = c := by
  rw [List.take_add_one, h]
  simp

set_option maxHeartbeats 4000000 in
set_option maxRecDepth 100000 in
theorem hist_fits (l : List Ev) (o : List (Int × Int)) (u v : Value) (w : World) (hl : EvsAt w u l) (ho : CallsAt w v o) (hlen : l.length ≤ 100000000) (holen : o.length ≤ 100000000) (hwo : ∀ c ∈ o, WfC c) (hwl : ∀ e ∈ l, WfC (ofE e)) :
    Calls Try.prog 19 #[u, v] w fun r w' => r = .returned (.bool (fitsB l o)) ∧ Below w.heap.size w w' := by
  have hmm := @run_makeMap Try.prog
  have HL := Lib.hid hl
  have HOR := Lib.hid ho
  have HWO := Lib.hid hwo
  have HWL := Lib.hid hwl
  clear hwo hwl
  obtain ⟨a, ca, rfl, hl1, hl2, hl3, hl4⟩ := hl
  obtain ⟨ao, co, rfl, hm1, hm2, hm3, hm4⟩ := ho
  clear hl3 hl4 hm3 hm4
  unfold maxLen at hl2 hm2
  go_enter Try.func19, Try.ntmps19
  go_wp2
  go_step3
  go_wp2
  go_loopw [24] (fun i wr => ∃ (k : Nat) (D : DataW Unit), k ≤ o.length ∧ i = .int .i64 k ∧ Hid (NoneYet (wrongAt l o) k) ∧ Below w.heap.size w wr ∧ Hid (wr.ownsMap Try.prog 31 (plainElem Try.prog 3) w.heap.size k D) ∧
      Hid (IsMap D ∧ ∀ c, WfC c → Maps.has D (callKey c) = decide (c ∈ o.take k))) (fun i _ => o.length - (intOf i).toNat)
  case atStart => exact ⟨0, .map [], Nat.zero_le _, rfl, NoneYet.zero _, (Below.refl _ _).alloc (Nat.le_refl _) _, World.ownsMap_made _ _ _ _, isMap_empty, fun n _ => rfl⟩
  case round =>
    obtain ⟨k, D, hk, rfl, HN, hbel, HO, HD⟩ := hrel
    by_cases hlt : k < o.length
    · obtain ⟨b1, o1, c, rfl, hb1, hkc, c1, c2⟩ := CallsAt.get2 HOR.out hlt
      rw [← hbel.cell (p := ⟨b1, _, none⟩) hb1] at c1 c2
      have hsz := hbel.size
      have hbr : b1 < wr.heap.size := by omega
      have HWK := Lib.hid (show (Lit.int .i64 (k : Int)).wf = true from WalkArith.wf_i64 (by omega))
      have HKM := Lib.hid (show k < maxLen by unfold maxLen; omega)
      have hwc : WfC c := HWO.out c (List.mem_of_getElem? hkc)
      have HK := Lib.hid (callKey_of c hwc.1 hwc.2)
      have HWc := Lib.hid hwc
      have hgd : o.getD k default = c := by rw [List.getD_eq_getElem?_getD, hkc]; rfl
      have HG := Lib.hid hgd
      have HKC := Lib.hid hkc
      clear hgd hkc hwc
      by_cases hmem : c ∈ o.take k
      · have hd : Maps.has D (callKey c) = true := by rw [HD.out.2 c HWc.out]; simpa using hmem
        have hbad : fitsB l o = false := by
          unfold fitsB
          rw [firstIdx_some HN.out hlt (by unfold wrongAt; rw [HG.out]; simp [hmem])]
          rfl
        have HB := Lib.hid hbad
        clear hbad
        go_wp2_with (at_lookup; refine wpList_lookup_own_ok_int _ rfl _ _ 60 rfl 31 3 .i64 lawCall Try.underlying60 Try.underlying3 (zeroInt _) w.heap.size k _ rfl (HO.out.alloc _) _ _ rfl HK.out ?_; intro cc hat hwc; clear hat hwc; rw [hd])
        rw [Exit.noGoto_ret]
        go_ret
        exact ⟨ret_bool (by rw [HB.out]), hbel.alloc hsz _⟩
      · have hd : Maps.has D (callKey c) = false := by rw [HD.out.2 c HWc.out]; simpa using hmem
        have HM := Lib.hid hmem
        clear hmem
        go_wp2_with (at_lookup; refine wpList_lookup_own_ok_int _ rfl _ _ 60 rfl 31 3 .i64 lawCall Try.underlying60 Try.underlying3 (zeroInt _) w.heap.size k _ rfl (HO.out.alloc _) _ _ rfl HK.out ?_; intro cc hat hwc; clear hat hwc; rw [hd])
        refine (hist_of 1 c _).mono ?_
        rintro r w3 ⟨B3, B4, rfl, e1, e2, e3, hb3⟩
        have hw3 := wants_of e1 e2 e3
        have hbel3 := bstep1 hbel (Nat.le_refl _) hb3
        have hl3 := HL.out.below hbel3
        have HO3 := Lib.hid (Below.ownsMap hb3 (HO.out.alloc _))
        obtain ⟨hc3, hf3⟩ := bcell hb3
        have g1 : w3.cell? ⟨wr.heap.size, 0, none⟩ = some (.int .i64 c.1) := by rw [hc3 _ _ (by simp)]; simp [go_sem]
        have g2 : w3.cell? ⟨wr.heap.size, 1, none⟩ = some (.int .i64 c.2) := by rw [hc3 _ _ (by simp)]; simp [go_sem]
        clear hc3 hf3 e1 e2 e3 hb3 hd
        go_wp2_with fail
        refine (pick_first _ _ enters_of _ l _ _ hl3 hw3).mono ?_
        rintro r w4 ⟨rfl, hb4⟩
        have hbel4 := bstep hbel3 (Nat.le_refl _) hb4
        have HO4 := Lib.hid (Below.ownsMap hb4 HO3.out)
        have hs3 : wr.heap.size < w3.heap.size := World.block_lt_of_cell? _ _ g1
        rw [← hb4.cell (p := ⟨wr.heap.size, _, none⟩) hs3] at g1 g2
        obtain ⟨q, hq⟩ : ∃ q, firstE (isOf 1 c) l = q := ⟨_, rfl⟩
        rw [hq]
        have HQ := Lib.hid hq
        simp only [idxVal]
        clear hq hw3 hl3 hb4 hs3 HO3
        cases q with
        | none =>
          have hbad : fitsB l o = false := by
            unfold fitsB
            rw [firstIdx_some HN.out hlt (by unfold wrongAt calledB; rw [HG.out, HQ.out]; simp)]
            rfl
          have HB := Lib.hid hbad
          clear hbad
          simp only [Option.isSome_none, Option.getD_none]
          go_wp2
          rw [Exit.noGoto_ret]
          go_ret
          exact ⟨ret_bool (by rw [HB.out]), hbel4⟩
        | some x =>
          have hgood : wrongAt l o k = false := by
            unfold wrongAt calledB
            rw [HG.out, HQ.out]
            simp [HM.out]
          have HGD := Lib.hid hgood
          clear hgood
          simp only [Option.isSome_some, Option.getD_some]
          go_wp2_with (at_mapUpdate; refine wpList_mapUpdate_own _ rfl _ _ _ 60 rfl 31 3 lawCall Try.underlying60 _ w.heap.size k _ rfl HO4.out HKM.out _ _ _ rfl rfl HK.out _ [] (plainElem_int Try.underlying3 HWK.out) ?_; intro w5 hown5 hgrow5)
          refine ⟨⟨k + 1, _, hlt, by go_num, HN.succ HGD.out, hbel4.grown hgrow5 hbel4.size (fun j hj => by cases hj; exact Nat.le_refl _), hown5, HD.out.1.put _ _, fun d hdw => ?_⟩, by simp [intOf]; omega⟩
          by_cases hcd : d = c
          · subst hcd
            rw [Maps.has_put_same HD.out.1 (lawCall.key HK.out)]
            symm
            rw [decide_eq_true_iff, take_succ_mem HKC.out]
            exact .inr rfl
          · rw [Maps.has_put_other (fun h => hcd (callKey_inj hdw HWc.out h)), HD.out.2 d hdw, Bool.eq_iff_iff]
            simp only [decide_eq_true_eq]
            rw [take_succ_mem HKC.out]
            simp [hcd]
    · obtain rfl : k = o.length := by omega
      rw [List.take_length] at HD
      obtain ⟨W1, hW1⟩ : ∃ W1, wr = W1 := ⟨_, rfl⟩
      rw [hW1] at hbel HO ⊢
      clear hW1 wr
      go_wp2
      go_step3
      go_wp2
      go_loopg [12, 51] o.length (fun g f i wr => ∃ k : Nat, k + g = o.length ∧ i = .int .i64 k ∧ f = .bool true ∧ Hid (NoneYet (lateAt l o) k) ∧ Below W1.heap.size W1 wr)
      case atStart => exact ⟨0, by omega, rfl, rfl, NoneYet.zero _, Below.refl _ _⟩
      case round =>
        obtain ⟨k, hkg, rfl, rfl, HLATE, hbel1⟩ := hrel
        obtain ⟨W2, hW2⟩ : ∃ W2, wr = W2 := ⟨_, rfl⟩
        rw [hW2] at hbel1 ⊢
        clear hW2 wr
        have hs1 := hbel.size
        have hs2 := hbel1.size
        by_cases hlt : k < o.length
        · obtain ⟨b1, o1, c, rfl, hb1, hkc, c1, c2⟩ := CallsAt.get2 HOR.out hlt
          rw [← (bstep hbel (Nat.le_refl _) hbel1).cell (p := ⟨b1, _, none⟩) hb1] at c1 c2
          have hbr : b1 < W2.heap.size := by omega
          have hgd : o.getD k default = c := by rw [List.getD_eq_getElem?_getD, hkc]; rfl
          have HG := Lib.hid hgd
          have HKC := Lib.hid hkc
          clear hgd hkc
          have hkco : (k : Int) ≤ co := by omega
          go_wp2
          obtain ⟨W3, hW3⟩ : ∃ W3, W2.alloc (.cells #[.int .i64 c.1, .int .i64 c.2] 31) = W3 := ⟨_, rfl⟩
          have d0 : W3.cell? ⟨W2.heap.size, 0, none⟩ = some (.int .i64 c.1) := by rw [← hW3]; simp [go_sem]
          have d1 : W3.cell? ⟨W2.heap.size, 1, none⟩ = some (.int .i64 c.2) := by rw [← hW3]; simp [go_sem]
          have hs0 : W2.heap.size < W3.heap.size := by rw [← hW3]; simp
          have hbw : Below W1.heap.size W1 W3 := by rw [← hW3]; exact hbel1.alloc hs2 _
          rw [hW3]
          clear hW3
          go_loopg [12, 60] k (fun g f i wr => ∃ m : Nat, m + g = k ∧ i = .int .i64 m ∧ f = .bool true ∧ Hid (NoneYet (fun j => aheadB l c (o.getD j default)) m) ∧ Below W3.heap.size W3 wr)
          case atStart => exact ⟨0, by omega, rfl, rfl, NoneYet.zero _, Below.refl _ _⟩
          case round =>
            obtain ⟨m, hmg, rfl, rfl, HN2, hbel2⟩ := hrel
            rw [← hbel2.cell (p := ⟨W2.heap.size, _, none⟩) hs0] at d0 d1
            have hs4 := hbel2.size
            by_cases hlt2 : m < k
            · obtain ⟨b2, o2, d, hbo, hb2, hkd, c3, c4⟩ := CallsAt.get2 HOR.out (show m < o.length by omega)
              simp only [Option.some.injEq, Addr.mk.injEq] at hbo
              obtain ⟨rfl, rfl, _⟩ := hbo
              rw [← (bstep (bstep hbel (Nat.le_refl _) (hbw.mono (Nat.le_refl _))) (by omega) hbel2).cell (p := ⟨b1, _, none⟩) hb1] at c3 c4
              have hgd2 : o.getD m default = d := by rw [List.getD_eq_getElem?_getD, hkd]; rfl
              have HG2 := Lib.hid hgd2
              clear hgd2 hkd
              have hl5 := HL.out.below ((bstep (bstep hbel (Nat.le_refl _) hbw) (by omega) hbel2).alloc (by omega) (.cells #[.int .i64 d.1, .int .i64 d.2] 31))
              have HL5 := Lib.hid hl5
              clear hl5
              have hbr2 : W2.heap.size < wr.heap.size := by omega
              go_wp2_with fail
              refine (hist_before l c d _ _ HL5.out).mono ?_
              rintro r w5 ⟨rfl, hb5⟩
              have hbel5 := bstep1 hbel2 (Nat.le_refl _) hb5
              cases ha : aheadB l c d with
              | true =>
                have hf : fitsB l o = false := by
                  unfold fitsB
                  rw [firstIdx_some HLATE.out hlt (by unfold lateAt; rw [HG.out, firstIdx_some HN2.out hlt2 (by show aheadB l c _ = true; rw [HG2.out]; exact ha)]; rfl)]
                  simp
                have HF := Lib.hid hf
                clear hf ha
                go_wp2_with fail
                have hbT : Below W1.heap.size W1 _ := hbw.trans (hbel5.mono (by omega))
                have hlT := HL.out.below (bstep hbel (Nat.le_refl _) hbT)
                refine (hist_told l _ _ hlT hlen).mono ?_
                rintro r w7 ⟨⟨v7, rfl, h7⟩, hb7⟩
                have hbel7 := bstep hbT (Nat.le_refl _) hb7
                obtain ⟨a7, ca7, rfl, hm71, hm72, hm73, hm74⟩ := id h7
                clear hm73 hm74 hlT hb7 hbT
                unfold maxLen at hm72
                have hs7 := hbel7.size
                have hle7 := callsE_le (isK 3) l
                have HO7 := Lib.hid (Below.ownsMap hbel7 HO.out)
                have H7 := Lib.hid h7
                clear h7
                go_wp2
                go_loopw [73] (fun i wr => ∃ k : Nat, k ≤ (callsE (isK 3) l).length ∧ i = .int .i64 k ∧ True ∧ Below w7.heap.size w7 wr) (fun i _ => (callsE (isK 3) l).length - (intOf i).toNat)
                case atStart => exact ⟨0, Nat.zero_le _, rfl, trivial, Below.refl _ _⟩
                case round =>
                  obtain ⟨k, hk, rfl, HN4, hbel8⟩ := hrel
                  have hs8 := hbel8.size
                  by_cases hlt : k < (callsE (isK 3) l).length
                  · obtain ⟨b1, o1, c, rfl, hb1, hkc, c1, c2⟩ := CallsAt.get2 H7.out hlt
                    rw [← hbel8.cell (p := ⟨b1, _, none⟩) hb1] at c1 c2
                    have hbr : b1 < wr.heap.size := by omega
                    have hgd : (callsE (isK 3) l).getD k default = c := by rw [List.getD_eq_getElem?_getD, hkc]; rfl
                    have HG := Lib.hid hgd
                    have hwc : WfC c := by
                      obtain ⟨j, e, h1, _, h3⟩ := mem_callsE.1 (List.mem_of_getElem? hkc)
                      rw [← h3]
                      exact HWL.out e (List.mem_of_getElem? h1)
                    have hcm := List.mem_of_getElem? hkc
                    have HCM := Lib.hid hcm
                    have HK := Lib.hid (callKey_of c hwc.1 hwc.2)
                    have HWc := Lib.hid hwc
                    have HO8 := Lib.hid (Below.ownsMap hbel8 HO7.out)
                    clear hgd hkc hwc hcm
                    have hdd := HD.out.2 c HWc.out
                    cases hd : decide (c ∈ o) with
                    | true =>
                      rw [hd] at hdd
                      go_wp2_with (at_lookup; refine wpList_lookup_own_ok_int _ rfl _ _ 60 rfl 31 3 .i64 lawCall Try.underlying60 Try.underlying3 (zeroInt _) w.heap.size o.length _ rfl (HO8.out.alloc _) _ _ rfl HK.out ?_; intro cc hat hwc; clear hat hwc; rw [hdd])
                      exact ⟨⟨k + 1, hlt, by go_num, trivial, hbel8.alloc hs8 _⟩, by simp [intOf]; omega⟩
                    | false =>
                      rw [hd] at hdd
                      go_wp2_with (at_lookup; refine wpList_lookup_own_ok_int _ rfl _ _ 60 rfl 31 3 .i64 lawCall Try.underlying60 Try.underlying3 (zeroInt _) w.heap.size o.length _ rfl (HO8.out.alloc _) _ _ rfl HK.out ?_; intro cc hat hwc; clear hat hwc; rw [hdd])
                      rw [Exit.noGoto_ret]
                      go_ret
                      exact ⟨ret_bool (show false = fitsB l o from (HF.out : fitsB l o = false).symm), bstep hbel (Nat.le_refl _) (bstep hbel7 (Nat.le_refl _) (hbel8.alloc hs8 _))⟩
                  · obtain rfl : k = (callsE (isK 3) l).length := by omega
                    go_wp2
                    first | rw [Exit.noGoto_ret] | skip
                    go_ret
                    exact ⟨ret_bool (show false = fitsB l o from HF.out.symm), bstep hbel (Nat.le_refl _) (bstep hbel7 (Nat.le_refl _) hbel8)⟩
              | false =>
                go_wp2
                go_roundg (k - (m + 1))
                case measure => omega
                case rel => exact ⟨m + 1, by omega, by go_num, rfl, HN2.out.succ (by show aheadB l c _ = false; rw [HG2.out]; exact ha), hbel5⟩
            · obtain rfl : m = k := by omega
              go_wp2
              go_roundg (o.length - (m + 1))
              case measure => omega
              case rel => exact ⟨m + 1, by omega, by go_num, rfl, HLATE.out.succ (by unfold lateAt; rw [HG.out, firstIdx_none HN2.out]; rfl), hbw.trans (hbel2.mono (by omega))⟩
        · obtain rfl : k = o.length := by omega
          go_wp2_with fail
          have hbT : Below W1.heap.size W1 _ := hbel1
          have hlT := HL.out.below (bstep hbel (Nat.le_refl _) hbT)
          refine (hist_told l _ _ hlT hlen).mono ?_
          rintro r w7 ⟨⟨v7, rfl, h7⟩, hb7⟩
          have hbel7 := bstep hbT (Nat.le_refl _) hb7
          obtain ⟨a7, ca7, rfl, hm71, hm72, hm73, hm74⟩ := id h7
          clear hm73 hm74 hlT hb7 hbT
          unfold maxLen at hm72
          have hs7 := hbel7.size
          have hle7 := callsE_le (isK 3) l
          have HO7 := Lib.hid (Below.ownsMap hbel7 HO.out)
          have H7 := Lib.hid h7
          clear h7
          go_wp2
          go_loopw [73] (fun i wr => ∃ k : Nat, k ≤ (callsE (isK 3) l).length ∧ i = .int .i64 k ∧ Hid (NoneYet (fun j => !decide ((callsE (isK 3) l).getD j default ∈ o)) k) ∧ Below w7.heap.size w7 wr) (fun i _ => (callsE (isK 3) l).length - (intOf i).toNat)
          case atStart => exact ⟨0, Nat.zero_le _, rfl, NoneYet.zero _, Below.refl _ _⟩
          case round =>
            obtain ⟨k, hk, rfl, HN4, hbel8⟩ := hrel
            have hs8 := hbel8.size
            by_cases hlt : k < (callsE (isK 3) l).length
            · obtain ⟨b1, o1, c, rfl, hb1, hkc, c1, c2⟩ := CallsAt.get2 H7.out hlt
              rw [← hbel8.cell (p := ⟨b1, _, none⟩) hb1] at c1 c2
              have hbr : b1 < wr.heap.size := by omega
              have hgd : (callsE (isK 3) l).getD k default = c := by rw [List.getD_eq_getElem?_getD, hkc]; rfl
              have HG := Lib.hid hgd
              have hwc : WfC c := by
                obtain ⟨j, e, h1, _, h3⟩ := mem_callsE.1 (List.mem_of_getElem? hkc)
                rw [← h3]
                exact HWL.out e (List.mem_of_getElem? h1)
              have hcm := List.mem_of_getElem? hkc
              have HCM := Lib.hid hcm
              have HK := Lib.hid (callKey_of c hwc.1 hwc.2)
              have HWc := Lib.hid hwc
              have HO8 := Lib.hid (Below.ownsMap hbel8 HO7.out)
              clear hgd hkc hwc hcm
              have hdd := HD.out.2 c HWc.out
              cases hd : decide (c ∈ o) with
              | true =>
                rw [hd] at hdd
                go_wp2_with (at_lookup; refine wpList_lookup_own_ok_int _ rfl _ _ 60 rfl 31 3 .i64 lawCall Try.underlying60 Try.underlying3 (zeroInt _) w.heap.size o.length _ rfl (HO8.out.alloc _) _ _ rfl HK.out ?_; intro cc hat hwc; clear hat hwc; rw [hdd])
                exact ⟨⟨k + 1, hlt, by go_num, HN4.succ (by show (!decide (_ ∈ o)) = false; rw [HG.out, hd]; rfl), hbel8.alloc hs8 _⟩, by simp [intOf]; omega⟩
              | false =>
                rw [hd] at hdd
                go_wp2_with (at_lookup; refine wpList_lookup_own_ok_int _ rfl _ _ 60 rfl 31 3 .i64 lawCall Try.underlying60 Try.underlying3 (zeroInt _) w.heap.size o.length _ rfl (HO8.out.alloc _) _ _ rfl HK.out ?_; intro cc hat hwc; clear hat hwc; rw [hdd])
                rw [Exit.noGoto_ret]
                go_ret
                exact ⟨ret_bool (show false = fitsB l o from ((by unfold fitsB; rw [show missB l o = true from List.any_eq_true.2 ⟨c, HCM.out, by rw [hd]; rfl⟩]; simp) : fitsB l o = false).symm), bstep hbel (Nat.le_refl _) (bstep hbel7 (Nat.le_refl _) (hbel8.alloc hs8 _))⟩
            · obtain rfl : k = (callsE (isK 3) l).length := by omega
              go_wp2
              first | rw [Exit.noGoto_ret] | skip
              go_ret
              refine ⟨ret_bool ?_, bstep hbel (Nat.le_refl _) (bstep hbel7 (Nat.le_refl _) hbel8)⟩
              symm
              unfold fitsB
              rw [firstIdx_none HN.out, firstIdx_none HLATE.out]
              have hmiss : missB l o = false := by
                unfold missB
                rw [List.any_eq_false]
                intro c hc
                obtain ⟨j, hj, rfl⟩ := List.getElem_of_mem hc
                have := HN4.out j hj
                simp only [List.getD_eq_getElem?_getD, List.getElem?_eq_getElem hj, Option.getD_some] at this
                simpa using this
              rw [hmiss]
              rfl

end Go.Proofs.Yteaahepjendjmaa
