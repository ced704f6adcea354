/- Walk of mutex.New, and a slice of a literal. -/
import Derived.Test.YtacmigimkdiagaaMutFns
namespace Go.Proofs.Ytacmigimkdiagaa
open Go.RowKit
set_option linter.unusedVariables false
set_option linter.unusedSimpArgs false

set_option maxHeartbeats 800000 in
theorem mutex_new (k : Nat) (w : World) (hn : k ≤ 200) :
    Calls Try.prog 39 #[.int .i64 k] w fun e w' => GivesInts w (List.replicate k 0) e w' := by
  obtain ⟨i0, hi, hz0, hz1, hz2⟩ := info_parts infoInt
  go_enter Try.func39, Try.ntmps39
  go_wp2_with (refine wpList_make_full _ rfl (.tmp 5) (.tmp 5) 22 rfl w.heap.size 3 i0 (.int .i64 0) 1 Try.underlying22 hi hz0 hz1 .i64 .i64 _ _ k rfl rfl rfl rfl ?_ ?_ (Nat.le_refl _) ?_)
  · rw [hz2]
    omega
  · unfold maxLen
    omega
  · intro w1 hown1 hg1
    have HV : Hid (OwnInts w1 w.heap.size (.slice (some ⟨w.heap.size, 0, none⟩) k k) (List.replicate k 0)) := by
      unfold Hid OwnInts
      rw [List.length_replicate, List.map_replicate]
      have e : (madeCells #[Value.int .i64 0] k).toList = List.replicate k (Value.int .i64 0) := toList_madeCells_one _ _
      rw [← e]
      exact hown1
    have hb1 : Below w.heap.size w w1 := (Below.refl _ _).grown hg1 (Nat.le_refl _) (fun k h => by cases h)
    clear hown1 hg1 hi hz0 hz1 hz2
    go_wp2
    go_ret
    refine ⟨⟨_, rfl, ?_⟩, hb1⟩
    have := HV.out
    rw [← List.length_replicate (n := k) (a := (0 : Int))] at this
    have h2 := OwnInts.ints this
    rw [List.length_replicate] at h2
    exact h2

end Go.Proofs.Ytacmigimkdiagaa
