/- The walks of plan.Two and of ref18's Two. -/
import Derived.Test.YtacmigimkdiagaaPlanMay
namespace Go.Proofs.Ytacmigimkdiagaa
open Go.RowKit
set_option linter.unusedVariables false
set_option linter.unusedSimpArgs false

/-- Are deeds two-phased, from a phase on? -/
def twoGo : List (Int × Int) → Int × List Int → Bool
  | [], _ => false
  | d :: rest, s => match mayS s d with
    | none => false
    | some s' => if s'.1 = 2 then decide (rest.length = 0) else twoGo rest s'
def twoB (l : List (Int × Int)) : Bool := twoGo l (0, [])
theorem drop_cons_of {α : Type} {l : List α} {j : Nat} {d : α} (h : l[j]? = some d) : l.drop j = d :: l.drop (j + 1) := by
  obtain ⟨hj, he⟩ := List.getElem?_eq_some_iff.1 h
  rw [List.drop_eq_getElem_cons hj, he]
theorem rise_snoc {L : List Int} (h : riseB L = true) {i : Int} (ha : aboveB L i = true) : riseB (L ++ [i]) = true := by
  rw [riseB_iff] at h ⊢
  intro k hk
  simp only [List.length_append, List.length_singleton] at hk
  by_cases hk' : k + 1 < L.length
  · have := h k hk'
    simp only [List.getD_eq_getElem?_getD] at this ⊢
    rw [List.getElem?_append_left (by omega), List.getElem?_append_left hk']
    exact this
  · have hkl : k + 1 = L.length := by omega
    simp only [List.getD_eq_getElem?_getD]
    rw [List.getElem?_append_left (by omega), List.getElem?_append_right (by omega), hkl]
    unfold aboveB at ha
    simp only [Bool.or_eq_true, decide_eq_true_eq] at ha
    rcases ha with h0 | h1
    · omega
    · rw [show L.length - 1 = k by omega, List.getD_eq_getElem?_getD] at h1
      simpa using h1
theorem lessL_rise_b {L : List Int} (h : riseB L = true) (m : List Int) : riseB (lessL L m) = true := by
  rw [rise_pairwise] at h ⊢
  exact h.filter _
theorem lessL_len (L m : List Int) : (lessL L m).length ≤ L.length := List.length_filter_le _ _
/-- A phase's next one. -/
theorem mayS_ok {s s' : Int × List Int} {d : Int × Int} (h : mayS s d = some s') (hr : riseB s.2 = true) : riseB s'.2 = true ∧ s'.2.length ≤ s.2.length + 1 := by
  obtain ⟨st, L⟩ := s
  obtain ⟨k, i⟩ := d
  unfold mayS at h
  simp only at h hr ⊢
  repeat' split at h
  all_goals first
    | (obtain rfl := Option.some.inj h; simp only)
    | (cases h; done)
  · rename_i hc
    exact ⟨rise_snoc hr hc.2, by simp⟩
  · exact ⟨hr, by omega⟩
  · exact ⟨hr, by omega⟩
  · exact ⟨lessL_rise_b hr _, by have := lessL_len L [i]; omega⟩
  · exact ⟨hr, by omega⟩

/-- The phase that the walk of Two stands in. -/
def TwoAt (l : List (Int × Int)) (j : Nat) (B : Nat) (w : World) : Prop := ∃ s v, PhaseAt w B s v ∧ riseB s.2 = true ∧ s.2.length ≤ j ∧ twoGo (l.drop j) s = twoB l
theorem phase_zero (w : World) : PhaseAt (w.alloc (.cells #[.int .i64 0, .slice none 0 0] 56)) w.heap.size (0, []) (.slice none 0 0) :=
  ⟨by simp [go_sem], by simp [go_sem], by simp [go_sem], by simp [go_sem], IntsAt.nil _, fun _ => OwnInts.nil _ _⟩

set_option maxHeartbeats 1600000 in
theorem plan_two (l : List (Int × Int)) (v : Value) (w : World) (hl : PlanAt w v l) (hlen : l.length ≤ 1000000) :
    Calls Try.prog 19 #[v] w fun r w' => r = .returned (.bool (twoB l)) ∧ Below w.heap.size w w' := by
  have HL := Lib.hid hl
  obtain ⟨a, ca, rfl, hl1, hl2, hl3, hl4⟩ := hl
  clear hl3 hl4
  unfold maxLen at hl2
  go_enter Try.func19, Try.ntmps19
  go_wp2
  go_step3
  go_wp2
  have hT0 := Lib.hid (show TwoAt l 0 w.heap.size _ from ⟨_, _, phase_zero w, rfl, Nat.zero_le _, rfl⟩)
  obtain ⟨W1, hW1⟩ : ∃ W1, w.alloc (.cells #[.int .i64 0, .slice none 0 0] 56) = W1 := ⟨_, rfl⟩
  have hb1 : Below w.heap.size w W1 := by rw [← hW1]; exact (Below.refl _ _).alloc (Nat.le_refl _) _
  have hs1 : w.heap.size < W1.heap.size := by rw [← hW1]; simp
  rw [hW1] at hT0 ⊢
  clear hW1
  go_step3
  go_wp2
  go_loopg [8] l.length (fun g i wr => ∃ j : Nat, j + g = l.length ∧ i = .int .i64 j ∧ Hid (TwoAt l j w.heap.size wr) ∧ Below w.heap.size w wr)
  case atStart => exact ⟨0, by omega, rfl, hT0.out, hb1⟩
  case round =>
    obtain ⟨j, hjg, rfl, HT, hbel⟩ := hrel
    have hsz := hbel.size
    obtain ⟨s, pv, hp, hr, hlj, htw⟩ := HT.out
    have hBr := hp.lt
    have HTW := Lib.hid htw
    have HP := Lib.hid hp
    clear htw hp HT
    by_cases hlt : j < l.length
    · obtain ⟨b1, o1, d, rfl, hb1', hkd, c1, c2⟩ := PlanAt.get2 (HL.out.below hbel) hlt
      have HS := Lib.hid (drop_cons_of hkd)
      clear hkd
      go_wp2_with fail
      refine (phases_may w.heap.size s pv d _ (HP.out.below ((Below.refl _ _).alloc (Nat.le_refl _) _)) hr (by omega)).mono ?_
      rintro r w5 ⟨hm, hb5⟩
      have hbel5 : Below w.heap.size w w5 := (hbel.alloc hsz _).trans hb5
      cases hms : mayS s d with
      | none =>
        rw [hms] at hm
        obtain ⟨rfl, v5, hp5⟩ := hm
        have HF := Lib.hid (show twoB l = false by rw [← HTW.out, HS.out]; unfold twoGo; rw [hms])
        clear hms
        have e0 := hp5.c0
        have e2 := hp5.f0
        clear hp5
        go_wp2
        first | rw [Exit.noGoto_ret] | skip
        go_ret
        exact ⟨ret_bool HF.out.symm, hbel5.setCell (Nat.le_refl _) _⟩
      | some s' =>
        rw [hms] at hm
        obtain ⟨rfl, v5, hp5⟩ := hm
        have hok := mayS_ok hms hr
        have hgo : twoB l = if s'.1 = 2 then decide ((l.drop (j + 1)).length = 0) else twoGo (l.drop (j + 1)) s' := by rw [← HTW.out, HS.out, twoGo, hms]
        have HGO := Lib.hid hgo
        clear hms hgo
        have e0 := hp5.c0
        have HP5 := Lib.hid hp5
        clear hp5
        cases h2 : (s'.1 == 2) with
        | true =>
          have HE := Lib.hid (show decide ((j : Int) = (l.length : Int) - 1) = twoB l by rw [HGO.out, if_pos (by simpa using h2), List.length_drop]; congr 1; apply propext; constructor <;> intro h <;> omega)
          have wl : IntKind.i64.wrap ((l.length : Int) - 1) = (l.length : Int) - 1 := IntWalk.i64_in _ (by omega)
          go_wp2
          first | rw [Exit.noGoto_ret] | skip
          go_ret
          exact ⟨ret_bool HE.out, hbel5⟩
        | false =>
          have HE := Lib.hid (show twoGo (l.drop (j + 1)) s' = twoB l by rw [HGO.out, if_neg (by simpa using h2)])
          go_wp2
          go_roundg (l.length - (j + 1))
          case measure => omega
          case rel => exact ⟨j + 1, by omega, by go_num, ⟨s', v5, HP5.out, hok.1, by omega, HE.out⟩, hbel5⟩
    · obtain rfl : j = l.length := by omega
      have HF := Lib.hid (show twoB l = false by rw [← HTW.out, List.drop_length]; rfl)
      go_wp2
      first | rw [Exit.noGoto_ret] | skip
      go_ret
      exact ⟨ret_bool HF.out.symm, hbel⟩

end Go.Proofs.Ytacmigimkdiagaa
