/- The walk of wait.spans. -/
import Derived.Test.YteaahepjendjmaaWaitFns
namespace Go.Proofs.Yteaahepjendjmaa
open Go.RowKit
set_option linter.unusedVariables false
set_option linter.unusedSimpArgs false

def spanR (l : List Ev) : Int × Int → Option Span := if rightB l then spanG l else fun _ => none
def toldR (l : List Ev) : List (Int × Int) := if rightB l then callsE (isK 3) l else []
/-- What a call gives that gives spans. -/
def GivesSpans (w : World) (l : List Ev) (r : Ending) (w' : World) : Prop := (∃ B v n, r = .returned (.tuple #[.map (some B), v]) ∧ SpanMap w' B n (spanR l) ∧ CallsAt w' v (toldR l)) ∧ Below w.heap.size w w'

set_option maxHeartbeats 1600000 in
theorem wait_spans (l : List Ev) (v : Value) (w : World) (hl : EvsAt w v l) (hlen : l.length ≤ 100000000) (hwf : ∀ e ∈ l, WfE e) :
    Calls Try.prog 41 #[v] w fun r w' => GivesSpans w l r w' := by
  have hmm := @run_makeMap Try.prog
  have HL := Lib.hid hl
  have HW := Lib.hid hwf
  clear hwf
  obtain ⟨a, ca, rfl, hl1, hl2, hl3, hl4⟩ := hl
  clear hl3 hl4
  unfold maxLen at hl2
  go_enter Try.func41, Try.ntmps41
  go_wp2_with fail
  refine (hist_right l _ _ (HL.out.alloc _) hlen).mono ?_
  rintro r w1 ⟨rfl, hb1⟩
  have hm1 := (SpanMap.made w).below hb1
  have HM1 := Lib.hid hm1
  have hbel1 : Below w.heap.size w w1 := of_alloc hb1
  have hs1 : w.heap.size < w1.heap.size := hm1.lt
  clear hm1 hb1 hmm
  cases hr : rightB l with
  | false =>
    have HR := Lib.hid hr
    clear hr
    go_wp2
    go_ret2
    refine ⟨⟨_, _, _, rfl, HM1.out.congr fun c hc => ?_, ?_⟩, hbel1⟩
    · unfold spanR
      rw [HR.out]
      rfl
    · unfold toldR
      rw [HR.out]
      exact RowsAt.nil _ _ _
  | true =>
    have HR := Lib.hid hr
    clear hr
    go_wp2
    go_loopw [16] (fun i wr => ∃ k : Nat, k ≤ l.length ∧ i = .int .i64 k ∧ Hid (SpanMap wr w.heap.size k (spanG (l.take k))) ∧ Below w.heap.size w wr) (fun i _ => l.length - (intOf i).toNat)
    case atStart => exact ⟨0, Nat.zero_le _, rfl, HM1.out, hbel1⟩
    case round =>
      obtain ⟨k, hk, rfl, HM, hbel⟩ := hrel
      have hsz := hbel.size
      by_cases hlt : k < l.length
      · obtain ⟨b1, o1, e, rfl, hb1, hke, c1, c2, c3, c4⟩ := EvsAt.get4 HL.out hlt
        rw [← hbel.cell (p := ⟨b1, _, none⟩) hb1] at c1 c2 c3 c4
        have HKE := Lib.hid hke
        have HWC := Lib.hid ((HW.out e (List.mem_of_getElem? hke)).call)
        have HKM := Lib.hid (show k < maxLen by unfold maxLen; omega)
        obtain ⟨S, hS⟩ : ∃ S, (spanG (l.take k) (ofE e)).getD (0, 0, 0) = S := ⟨_, rfl⟩
        have HS := Lib.hid hS
        clear hke hS
        cases hk1 : (e.k == 1) with
        | true =>
          have hu : updS e S = (e.t, S.2.1, S.2.2) := by
            unfold updS
            rw [if_pos (by simpa using hk1)]
          have HU := Lib.hid hu
          clear hu
          go_wp2_with (first
            | (at_lookup; refine wpList_look_span rfl _ _ rfl rfl ((HM.out.alloc _).alloc _) (ofE e) rfl HWC.out ?_; rw [HS.out])
            | (at_mapUpdate; refine wpList_put_span rfl _ _ _ rfl rfl (((HM.out.alloc _).alloc _).alloc _) HKM.out (ofE e) rfl HWC.out (e.t, S.2.1, S.2.2) rfl ?_; intro w5 hm5 hg5))
          refine ⟨⟨k + 1, hlt, by go_num, ?_, (((hbel.alloc hsz _).alloc (by simp; omega) _).alloc (by simp; omega) _).grown hg5 (by simp; omega) (fun j hj => by cases hj; exact Nat.le_refl _)⟩, by simp [intOf]; omega⟩
          refine hm5.congr fun d hd => ?_
          rw [spanG_snoc HKE.out]
          by_cases hde : d = ofE e
          · subst hde
            rw [if_pos rfl, if_pos rfl, HS.out, HU.out]
          · rw [if_neg hde, if_neg hde]
        | false =>
          cases hk2 : (e.k == 2) with
          | true =>
            have hu : updS e S = (S.1, e.t, S.2.2) := by
              unfold updS
              rw [if_neg (by simpa using hk1), if_pos (by simpa using hk2)]
            have HU := Lib.hid hu
            clear hu
            go_wp2_with (first
              | (at_lookup; refine wpList_look_span rfl _ _ rfl rfl ((HM.out.alloc _).alloc _) (ofE e) rfl HWC.out ?_; rw [HS.out])
              | (at_mapUpdate; refine wpList_put_span rfl _ _ _ rfl rfl (((HM.out.alloc _).alloc _).alloc _) HKM.out (ofE e) rfl HWC.out (S.1, e.t, S.2.2) rfl ?_; intro w5 hm5 hg5))
            refine ⟨⟨k + 1, hlt, by go_num, ?_, (((hbel.alloc hsz _).alloc (by simp; omega) _).alloc (by simp; omega) _).grown hg5 (by simp; omega) (fun j hj => by cases hj; exact Nat.le_refl _)⟩, by simp [intOf]; omega⟩
            refine hm5.congr fun d hd => ?_
            rw [spanG_snoc HKE.out]
            by_cases hde : d = ofE e
            · subst hde
              rw [if_pos rfl, if_pos rfl, HS.out, HU.out]
            · rw [if_neg hde, if_neg hde]
          | false =>
            have hu : updS e S = (S.1, S.2.1, e.t) := by
              unfold updS
              rw [if_neg (by simpa using hk1), if_neg (by simpa using hk2)]
            have HU := Lib.hid hu
            clear hu
            go_wp2_with (first
              | (at_lookup; refine wpList_look_span rfl _ _ rfl rfl ((HM.out.alloc _).alloc _) (ofE e) rfl HWC.out ?_; rw [HS.out])
              | (at_mapUpdate; refine wpList_put_span rfl _ _ _ rfl rfl (((HM.out.alloc _).alloc _).alloc _) HKM.out (ofE e) rfl HWC.out (S.1, S.2.1, e.t) rfl ?_; intro w5 hm5 hg5))
            refine ⟨⟨k + 1, hlt, by go_num, ?_, (((hbel.alloc hsz _).alloc (by simp; omega) _).alloc (by simp; omega) _).grown hg5 (by simp; omega) (fun j hj => by cases hj; exact Nat.le_refl _)⟩, by simp [intOf]; omega⟩
            refine hm5.congr fun d hd => ?_
            rw [spanG_snoc HKE.out]
            by_cases hde : d = ofE e
            · subst hde
              rw [if_pos rfl, if_pos rfl, HS.out, HU.out]
            · rw [if_neg hde, if_neg hde]
      · obtain rfl : k = l.length := by omega
        rw [List.take_length] at HM
        go_wp2_with fail
        refine (hist_told l _ _ (HL.out.below hbel) hlen).mono ?_
        rintro r w6 ⟨⟨v6, rfl, h6⟩, hb6⟩
        have hm6 := Lib.hid (HM.out.below hb6)
        have hbel6 := bstep hbel (Nat.le_refl _) hb6
        have H6 := Lib.hid h6
        clear h6 hb6
        go_wp2
        go_ret2
        refine ⟨⟨_, _, _, rfl, hm6.out.congr fun c hc => ?_, ?_⟩, hbel6⟩
        · unfold spanR
          rw [HR.out]
          rfl
        · unfold toldR
          rw [HR.out]
          exact H6.out

end Go.Proofs.Yteaahepjendjmaa
