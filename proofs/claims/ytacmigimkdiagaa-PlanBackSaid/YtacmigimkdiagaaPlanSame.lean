/- The walk of the reference's Same of deeds. -/
import Derived.Test.YtacmigimkdiagaaPlanBack
import Derived.Laws.EntriesVeiled
namespace Go.Proofs.Ytacmigimkdiagaa
open Go.RowKit
set_option linter.unusedVariables false
set_option linter.unusedSimpArgs false

def sameC (a b : Int × Int) : Bool := a.1 == b.1 && a.2 == b.2
theorem sameC_iff (a b : Int × Int) : sameC a b = true ↔ a = b := by
  obtain ⟨a1, a2⟩ := a
  obtain ⟨b1, b2⟩ := b
  simp [sameC]

/-- Two calls held against each other. -/
theorem deed_eq_run (a b c d : Int) (w : World) : (Op.equalIn 10000 36 (.agg #[.int .i64 a, .int .i64 b]) (.agg #[.int .i64 c, .int .i64 d])).run Try.prog w = .ok (a == c && b == d) w := by
  have hS : Try.prog.underlying 36 = some (.struct (Try.prog.fieldsOf 36)) := by kernel_rfl
  have hp : Try.prog.stoodInHeld 36 = false := by kernel_rfl
  have u := Try.underlying3
  rw [show (10000 : Nat) = 9999 + 1 from rfl, run_equalIn_agg w 9999 36 _ _ hS hp]
  simp only [Program.fieldsOf, Try.underlying36]
  go_simp
  by_cases h1 : a = c <;> by_cases h2 : b = d <;> simp [h1, h2]
@[go_sem high] theorem deed_eql (a b c d : Int) (w : World) : (binOp .eql 36 (.agg #[.int .i64 a, .int .i64 b]) (.agg #[.int .i64 c, .int .i64 d])).run Try.prog w = .ok (.bool (a == c && b == d)) w := by
  rw [run_eql_struct, deed_eq_run]
  rfl
@[go_sem high] theorem deed_neq (a b c d : Int) (w : World) : (binOp .neq 36 (.agg #[.int .i64 a, .int .i64 b]) (.agg #[.int .i64 c, .int .i64 d])).run Try.prog w = .ok (.bool (!(a == c && b == d))) w := by
  rw [run_neq_struct, deed_eq_run]
  rfl

set_option maxHeartbeats 800000 in
theorem ref18_same (l m : List (Int × Int)) (u v : Value) (w : World) (hl : PlanAt w u l) (hm : PlanAt w v m) :
    Calls Try.prog 12 #[u, v] w fun r w' => r = .returned (.bool (decide (l = m))) ∧ Below w.heap.size w w' := by
  have HL := Lib.hid hl
  have HM := Lib.hid hm
  obtain ⟨a, ca, rfl, hl1, hl2, hl3, hl4⟩ := hl
  obtain ⟨b, cb, rfl, hm1, hm2, hm3, hm4⟩ := hm
  clear hl3 hl4 hm3 hm4
  unfold maxLen at hl2 hm2
  by_cases hlen : l.length = m.length
  · have hne : ((l.length : Int) != m.length) = false := by simp [hlen]
    have HLEN := Lib.hid hlen
    clear hlen
    go_enter Try.func12, Try.ntmps12
    go_wp2
    clear hne
    go_loopw [5] (fun i wr => ∃ k : Nat, k ≤ l.length ∧ i = .int .i64 k ∧ Hid (l.take k = m.take k) ∧ Below w.heap.size w wr) (fun i _ => l.length - (intOf i).toNat)
    case atStart => exact ⟨0, Nat.zero_le _, rfl, rfl, Below.refl _ _⟩
    case round =>
      obtain ⟨k, hk, rfl, HS, hbel⟩ := hrel
      by_cases hlt : k < l.length
      · obtain ⟨b1, o1, x, rfl, hb1, hx, c1, c2⟩ := PlanAt.get2 HL.out hlt
        obtain ⟨b2, o2, y, rfl, hb2, hy, c3, c4⟩ := PlanAt.get2 HM.out (k := k) (by rw [← HLEN.out]; exact hlt)
        have hlt2 : k < m.length := by rw [← HLEN.out]; exact hlt
        rw [← hbel.cell (p := ⟨b1, _, none⟩) hb1] at c1 c2
        rw [← hbel.cell (p := ⟨b2, _, none⟩) hb2] at c3 c4
        have HX := Lib.hid hx
        have HY := Lib.hid hy
        clear hx hy
        cases hq : (x.1 == y.1 && x.2 == y.2) with
        | true =>
          have hxy : x = y := (sameC_iff x y).1 hq
          have HXY := Lib.hid hxy
          clear hxy
          go_wp2
          go_quiet (fail)
          go_wp2
          refine ⟨⟨k + 1, hlt, by go_num, ?_, below_drewN hbel _⟩, by simp [intOf]; omega⟩
          rw [List.take_add_one, List.take_add_one, HS.out, HX.out, HY.out, HXY.out]
          exact rfl
        | false =>
          have hxy : x ≠ y := by intro h; have h2 := (sameC_iff x y).2 h; unfold sameC at h2; rw [h2] at hq; cases hq
          have HXY := Lib.hid hxy
          clear hxy
          go_wp2
          go_quiet (fail)
          go_wp2
          go_ret
          refine ⟨ret_bool ?_, below_drewN hbel _⟩
          symm
          rw [decide_eq_false_iff_not]
          intro h
          apply HXY.out
          have h1 := HX.out
          rw [h, HY.out] at h1
          exact (Option.some.inj h1).symm
      · go_wp2
        go_ret
        obtain rfl : k = l.length := by omega
        refine ⟨ret_bool ?_, hbel⟩
        symm
        rw [decide_eq_true_iff]
        have := HS.out
        rw [List.take_length, HLEN.out, List.take_length] at this
        exact this
  · have hne : ((l.length : Int) != m.length) = true := by rw [bne_iff_ne]; omega
    go_enter Try.func12, Try.ntmps12
    go_wp2
    go_ret
    exact ⟨ret_bool (by symm; simp; intro h; exact hlen (by rw [h])), Below.refl _ _⟩

end Go.Proofs.Ytacmigimkdiagaa
