/- A call as a map's key. -/
import Derived.Test.YteaahepjendjmaaHistRight2
import Derived.Maps.Keyed
import Derived.DeepKeys4
namespace Go.Proofs.Yteaahepjendjmaa
open Go.RowKit Go.Maps
set_option linter.unusedVariables false
set_option linter.unusedSimpArgs false

theorem laidOutK : laidOutB Try.prog = true := by kernel_rfl
theorem lawCall : Keyed Try.prog 31 := Keyed.of_law (deep_law_laid laidOutK (m := 2) (by omega) (of_decide_eq_true (by kernel_rfl)) (by kernel_rfl) (by kernel_rfl))
/-- What a call reads as, as a key. -/
def callKey (c : Int × Int) : Lit := .string (keyBytes [.int .i64 c.1, .int .i64 c.2])
theorem callKey_of (c : Int × Int) (ha : (Lit.int .i64 c.1).wf = true) (hb : (Lit.int .i64 c.2).wf = true) : keyOf Try.prog 31 (callV c) = some (callKey c) := by
  have hu := Try.underlying31
  have hi := Try.underlying3
  unfold keyOf
  rw [hu]
  have hkt : Try.prog.keyType 31 = true := by kernel_rfl
  have hf : (callV c).formed Try.prog 31 = true := by
    have hc : Try.prog.cellsOf 31 = 2 := by kernel_rfl
    simp [Value.formed, hu, hc]
  simp only [hkt, hf, Bool.and_self, if_true]
  obtain ⟨m, hm⟩ : ∃ m, Try.prog.types.size = m + 1 := ⟨Try.prog.types.size - 1, by
    have : 0 < Try.prog.types.size := of_decide_eq_true (by kernel_rfl)
    omega⟩
  rw [hm]
  unfold Program.keyLits
  simp only [hu]
  have hc2 : Try.prog.cellsOf 31 = 2 := by kernel_rfl
  have hc1 : Try.prog.cellsOf 3 = 1 := by kernel_rfl
  rw [if_pos (by rw [hc2]; exact ⟨rfl, by kernel_rfl⟩)]
  simp [Value.cells, hc1, Program.keyLits, hi, ha, hb, callKey]

end Go.Proofs.Yteaahepjendjmaa
