/- Walks of package wait and of its reference: add, at, spans. -/
import Derived.Test.YteaahepjendjmaaWaitMap
import Derived.Test.YteaahepjendjmaaWaitLaws
import Derived.Outline
namespace Go.Proofs.Yteaahepjendjmaa
open Go.RowKit
set_option linter.unusedVariables false
set_option linter.unusedSimpArgs false

/-- A sum, up to the end. -/
def addS (a b : Int) : Int := if 4611686018427387904 < b ∨ 4611686018427387904 - b < a then 4611686018427387904 else a + b
theorem addS_bd {a b : Int} (ha : 0 ≤ a ∧ a ≤ 4611686018427387904) (hb : 0 ≤ b) : 0 ≤ addS a b ∧ addS a b ≤ 4611686018427387904 := by
  unfold addS
  split <;> omega

set_option maxHeartbeats 400000 in
theorem wait_add (a b : Int) (w : World) (ha : 0 ≤ a ∧ a ≤ 4611686018427387904) (hb : 0 ≤ b ∧ b ≤ 9223372036854775807) :
    Calls Try.prog 43 #[.int .i64 a, .int .i64 b] w fun e w' => e = .returned (.int .i64 (addS a b)) ∧ w' = w := by
  obtain ⟨ha1, ha2⟩ := ha
  obtain ⟨hb1, hb2⟩ := hb
  by_cases h1 : 4611686018427387904 < b
  · have hs : addS a b = 4611686018427387904 := by unfold addS; rw [if_pos (.inl h1)]
    have HS := Lib.hid hs
    clear hs
    go_enter Try.func43, Try.ntmps43
    go_wp2
    go_ret
    exact ⟨ret_int HS.out.symm, rfl⟩
  · by_cases h2 : 4611686018427387904 - b < a
    · have hs : addS a b = 4611686018427387904 := by unfold addS; rw [if_pos (.inr h2)]
      have HS := Lib.hid hs
      clear hs
      go_enter Try.func43, Try.ntmps43
      go_wp2
      go_ret
      exact ⟨ret_int HS.out.symm, rfl⟩
    · have hs : addS a b = a + b := by unfold addS; rw [if_neg (by omega)]
      have HS := Lib.hid hs
      clear hs
      go_enter Try.func43, Try.ntmps43
      go_wp2
      go_ret
      exact ⟨ret_int HS.out.symm, rfl⟩

set_option maxHeartbeats 400000 in
theorem ref34_plus (a b : Int) (w : World) (ha : 0 ≤ a ∧ a ≤ 4611686018427387904) (hb : 0 ≤ b ∧ b ≤ 4611686018427387904) :
    Calls Try.prog 49 #[.int .i64 a, .int .i64 b] w fun e w' => e = .returned (.int .i64 (addS a b)) ∧ w = w' := by
  obtain ⟨ha1, ha2⟩ := ha
  obtain ⟨hb1, hb2⟩ := hb
  by_cases h2 : 4611686018427387904 - b < a
  · have hs : addS a b = 4611686018427387904 := by unfold addS; rw [if_pos (.inr h2)]
    have HS := Lib.hid hs
    clear hs
    go_enter Try.func49, Try.ntmps49
    go_wp2
    go_ret
    exact ⟨ret_int HS.out.symm, rfl⟩
  · have hs : addS a b = a + b := by unfold addS; rw [if_neg (by omega)]
    have HS := Lib.hid hs
    clear hs
    go_enter Try.func49, Try.ntmps49
    go_wp2
    go_ret
    exact ⟨ret_int HS.out.symm, rfl⟩

set_option maxHeartbeats 400000 in
theorem ref34_add (a b : Int) (w : World) (ha : 0 ≤ a ∧ a ≤ 4611686018427387904) (hb : 0 ≤ b ∧ b ≤ 9223372036854775807) :
    Calls Try.prog 44 #[.int .i64 a, .int .i64 b] w fun e w' => e = .returned (.int .i64 (addS a b)) ∧ w' = w := by
  obtain ⟨ha1, ha2⟩ := ha
  obtain ⟨hb1, hb2⟩ := hb
  by_cases h1 : 4611686018427387904 < b
  · have hs : addS a b = 4611686018427387904 := by unfold addS; rw [if_pos (.inl h1)]
    have HS := Lib.hid hs
    clear hs
    go_enter Try.func44, Try.ntmps44
    go_wp2
    go_ret
    exact ⟨ret_int HS.out.symm, rfl⟩
  · go_enter Try.func44, Try.ntmps44
    go_wp2_with fail
    refine (ref34_plus a b _ ⟨ha1, ha2⟩ ⟨hb1, by omega⟩).mono ?_
    rintro e w' ⟨rfl, rfl⟩
    go_wp2
    go_ret
    exact ⟨rfl, rfl⟩

set_option maxHeartbeats 1600000 in
theorem ref34_at (l : List Ev) (v : Value) (kd : Int) (c : Int × Int) (w : World) (hl : EvsAt w v l) :
    Calls Try.prog 42 #[v, .int .i64 kd, callV c] w fun r w' => r = .returned (.int .i64 (atT kd c l)) ∧ Below w.heap.size w w' := by
  have hlw := hl
  obtain ⟨a, ca, rfl, hl1, hl2, hl3, hl4⟩ := hl
  clear hl3 hl4
  unfold maxLen at hl2
  go_enter Try.func42, Try.ntmps42
  go_wp2
  obtain ⟨W0, hW0⟩ : ∃ W0, w.alloc (.cells #[.int .i64 c.1, .int .i64 c.2] 31) = W0 := ⟨_, rfl⟩
  have d0 : W0.cell? ⟨w.heap.size, 0, none⟩ = some (.int .i64 c.1) := by rw [← hW0]; simp [go_sem]
  have d1 : W0.cell? ⟨w.heap.size, 1, none⟩ = some (.int .i64 c.2) := by rw [← hW0]; simp [go_sem]
  have hs0 : w.heap.size < W0.heap.size := by rw [← hW0]; simp
  have hbw : Below w.heap.size w W0 := by rw [← hW0]; exact (Below.refl _ _).alloc (Nat.le_refl _) _
  have HL := Lib.hid (hlw.below hbw)
  clear hlw
  rw [hW0]
  clear hW0
  go_loopw [7] (fun i wr => ∃ k : Nat, k ≤ l.length ∧ i = .int .i64 k ∧ NoneYet (fun j => isOf kd c (l.getD j default)) k ∧ Below W0.heap.size W0 wr) (fun i _ => l.length - (intOf i).toNat)
  case atStart => exact ⟨0, Nat.zero_le _, rfl, NoneYet.zero _, Below.refl _ _⟩
  case round =>
    obtain ⟨k, hk, rfl, hs, hbel⟩ := hrel
    rw [← hbel.cell (p := ⟨w.heap.size, _, none⟩) hs0] at d0 d1
    by_cases hlt : k < l.length
    · obtain ⟨b1, o1, e, rfl, hb1, hke, c1, c2, c3, c4⟩ := EvsAt.get4 HL.out hlt
      have hsz := hbel.size
      have hsw : w.heap.size < wr.heap.size := by omega
      rw [← hbel.cell (p := ⟨b1, _, none⟩) hb1] at c1 c2 c3 c4
      have hbr : b1 < wr.heap.size := by omega
      have hpk : isOf kd c (l.getD k default) = isOf kd c e := by rw [List.getD_eq_getElem?_getD, hke]; rfl
      have HK := Lib.hid hpk
      have HKE := Lib.hid hke
      have hisO : isOf kd c e = (e.k == kd && ((ofE e).1 == c.1 && (ofE e).2 == c.2)) := rfl
      have HI := Lib.hid hisO
      clear hpk hke hisO
      cases hd : (e.k == kd) with
      | true =>
        cases hq : ((ofE e).1 == c.1 && (ofE e).2 == c.2) with
        | true =>
          have hI : isOf kd c e = true := by rw [HI.out, hd, hq]; rfl
          have HII := Lib.hid hI
          clear hI
          go_wp2
          go_region_held3 (fun w' => Below wr.heap.size wr w' ∧ (∀ b o, b < wr.heap.size → w'.cell? ⟨b, o, none⟩ = wr.cell? ⟨b, o, none⟩) ∧ ∀ b o, b < wr.heap.size → w'.frozen? ⟨b, o, none⟩ = wr.frozen? ⟨b, o, none⟩)
            (first | exact Keeps.atDraw _ | exact hB | exact Keeps.new hB _ | exact Keeps.new (by assumption) _)
            ((refine (ref19_of e _).mono ?_; rintro r w1 ⟨rfl, hb⟩; have hB := Keeps.call hb (by assumption)))
          obtain ⟨hbW, hcW, hfW⟩ := hB
          go_wp2
          go_ret
          exact ⟨ret_int (by unfold atT; rw [find_at hs HKE.out HII.out]), hbw.trans ((hbel.trans (hbW.mono hbel.size)).mono (Nat.le_of_lt hs0))⟩
        | false =>
          have hI : isOf kd c e = false := by rw [HI.out, hd, hq]; rfl
          have HII := Lib.hid hI
          clear hI
          go_wp2
          go_region_held3 (fun w' => Below wr.heap.size wr w' ∧ (∀ b o, b < wr.heap.size → w'.cell? ⟨b, o, none⟩ = wr.cell? ⟨b, o, none⟩) ∧ ∀ b o, b < wr.heap.size → w'.frozen? ⟨b, o, none⟩ = wr.frozen? ⟨b, o, none⟩)
            (first | exact Keeps.atDraw _ | exact hB | exact Keeps.new hB _ | exact Keeps.new (by assumption) _)
            ((refine (ref19_of e _).mono ?_; rintro r w1 ⟨rfl, hb⟩; have hB := Keeps.call hb (by assumption)))
          go_wp2
          exact ⟨⟨k + 1, hlt, by go_num, hs.succ (by rw [HK.out]; exact HII.out), hbel.trans (hB.1.mono hbel.size)⟩, by simp [intOf]; omega⟩
      | false =>
        have hI : isOf kd c e = false := by rw [HI.out, hd]; rfl
        have HII := Lib.hid hI
        clear hI
        go_wp2
        go_quiet (fail)
        go_wp2
        exact ⟨⟨k + 1, hlt, by go_num, hs.succ (by rw [HK.out]; exact HII.out), below_drewN hbel _⟩, by simp [intOf]; omega⟩
    · obtain rfl : k = l.length := by omega
      go_wp2
      go_ret
      exact ⟨ret_int (by unfold atT; rw [find_none_at hs]), hbw.trans (hbel.mono (Nat.le_of_lt hs0))⟩

end Go.Proofs.Yteaahepjendjmaa
