/- Walks of package mutex: what an arm holds, and its reference. -/
import Derived.Test.YtacmigimkdiagaaMutFns
namespace Go.Proofs.Ytacmigimkdiagaa
open Go.RowKit
set_option linter.unusedVariables false
set_option linter.unusedSimpArgs false

/-- The ids that an arm holds. -/
def heldN (t : List Int) (who : Int) (k : Nat) : List Int := ((List.range k).filter fun j => t.getD j 0 == who).map fun (j : Nat) => (j : Int)
def heldT (t : List Int) (who : Int) : List Int := heldN t who t.length
theorem heldN_succ (t : List Int) (who : Int) (k : Nat) : heldN t who (k + 1) = heldN t who k ++ if (t.getD k 0 == who) = true then [(k : Int)] else [] := by
  unfold heldN
  rw [List.range_succ, List.filter_append, List.map_append]
  congr 1
  cases h : (t.getD k 0 == who) <;> simp only [List.filter_cons, h, List.filter_nil, if_true, if_false, Bool.false_eq_true] <;> rfl
theorem heldN_le (t : List Int) (who : Int) (k : Nat) : (heldN t who k).length ≤ k := by
  unfold heldN
  rw [List.length_map]
  have := List.length_filter_le (fun j => t.getD j 0 == who) (List.range k)
  simpa using this


set_option maxHeartbeats 800000 in
theorem mutex_Held (t : List Int) (v : Value) (who : Int) (w : World) (hl : IntsAt w v t) (hlen : t.length ≤ 100000000) :
    Calls Try.prog 33 #[v, .int .i64 who] w fun e w' => GivesInts w (heldT t who) e w' := by
  have HL := Lib.hid hl
  obtain ⟨a, ca, rfl, hl1, hl2, hl3, hl4⟩ := hl
  clear hl3 hl4
  unfold maxLen at hl2
  go_enter Try.func33, Try.ntmps33
  go_wp2
  go_loopw [5, 10] (fun o i wr => ∃ k : Nat, k ≤ t.length ∧ i = .int .i64 k ∧ OwnInts wr w.heap.size o (heldN t who k) ∧ Below w.heap.size w wr) (fun _ i _ => t.length - (intOf i).toNat)
  case atStart => exact ⟨0, Nat.zero_le _, rfl, OwnInts.nil _ _, Below.refl _ _⟩
  case round =>
    obtain ⟨k, hk, rfl, ho, hbel⟩ := hrel
    have HO := Lib.hid ho
    clear ho
    by_cases hlt : k < t.length
    · obtain ⟨b1, o1, rfl, hb1, c1⟩ := HL.out.get hlt
      rw [← hbel.cell (p := ⟨b1, _, none⟩) hb1] at c1
      obtain ⟨x, hx⟩ : ∃ x, t.getD k 0 = x := ⟨_, rfl⟩
      rw [hx] at c1
      have HS := Lib.hid (heldN_succ t who k)
      have HX := Lib.hid hx
      clear hx
      cases hd : (x == who) with
      | false =>
        go_wp2
        refine ⟨⟨k + 1, hlt, by go_num, ?_, hbel⟩, by simp [intOf]; omega⟩
        rw [HS.out, HX.out, hd]
        simpa using HO.out
      | true =>
        have HK := Lib.hid (heldN_le t who k)
        go_wp2_with (at_builtin; refine wpList_append_ints rfl (.tmp 18) (.tmp 20) rfl w.heap.size _ _ rfl (HO.out.alloc _) _ [(k : Int)] rfl (IntsAt.lit1 _ _) ?_ ?_ ?_)
        · have := HK.out
          simp
          omega
        · have := hbel.size
          simp
          omega
        · intro v1 w1 hown1 hg1 hb1
          have HV1 := Lib.hid hown1
          clear hown1 hg1
          go_wp2
          refine ⟨⟨k + 1, hlt, by go_num, ?_, (hbel.alloc hbel.size _).trans hb1⟩, by simp [intOf]; omega⟩
          rw [HS.out, HX.out, hd]
          exact HV1.out
    · go_wp2
      go_ret
      obtain rfl : k = t.length := by omega
      exact ⟨⟨_, rfl, HO.out.ints⟩, hbel⟩


set_option maxHeartbeats 800000 in
theorem ref17_Held (t : List Int) (v : Value) (who : Int) (w : World) (hl : IntsAt w v t) (hlen : t.length ≤ 100000000) :
    Calls Try.prog 34 #[v, .int .i64 who] w fun e w' => GivesInts w (heldT t who) e w' := by
  have HL := Lib.hid hl
  obtain ⟨a, ca, rfl, hl1, hl2, hl3, hl4⟩ := hl
  clear hl3 hl4
  unfold maxLen at hl2
  go_enter Try.func34, Try.ntmps34
  go_wp2
  go_loopw [5, 6] (fun o i wr => ∃ k : Nat, k ≤ t.length ∧ i = .int .i64 k ∧ OwnInts wr w.heap.size o (heldN t who k) ∧ Below w.heap.size w wr) (fun _ i _ => t.length - (intOf i).toNat)
  case atStart => exact ⟨0, Nat.zero_le _, rfl, OwnInts.nil _ _, Below.refl _ _⟩
  case round =>
    obtain ⟨k, hk, rfl, ho, hbel⟩ := hrel
    have HO := Lib.hid ho
    clear ho
    by_cases hlt : k < t.length
    · obtain ⟨b1, o1, rfl, hb1, c1⟩ := HL.out.get hlt
      rw [← hbel.cell (p := ⟨b1, _, none⟩) hb1] at c1
      obtain ⟨x, hx⟩ : ∃ x, t.getD k 0 = x := ⟨_, rfl⟩
      rw [hx] at c1
      have HS := Lib.hid (heldN_succ t who k)
      have HX := Lib.hid hx
      clear hx
      cases hd : (x == who) with
      | false =>
        go_wp2
        refine ⟨⟨k + 1, hlt, by go_num, ?_, hbel⟩, by simp [intOf]; omega⟩
        rw [HS.out, HX.out, hd]
        simpa using HO.out
      | true =>
        have HK := Lib.hid (heldN_le t who k)
        go_wp2_with (at_builtin; refine wpList_append_ints rfl (.tmp 19) (.tmp 21) rfl w.heap.size _ _ rfl (HO.out.alloc _) _ [(k : Int)] rfl (IntsAt.lit1 _ _) ?_ ?_ ?_)
        · have := HK.out
          simp
          omega
        · have := hbel.size
          simp
          omega
        · intro v1 w1 hown1 hg1 hb1
          have HV1 := Lib.hid hown1
          clear hown1 hg1
          go_wp2
          refine ⟨⟨k + 1, hlt, by go_num, ?_, (hbel.alloc hbel.size _).trans hb1⟩, by simp [intOf]; omega⟩
          rw [HS.out, HX.out, hd]
          exact HV1.out
    · go_wp2
      go_ret
      obtain rfl : k = t.length := by omega
      exact ⟨⟨_, rfl, HO.out.ints⟩, hbel⟩

end Go.Proofs.Ytacmigimkdiagaa
