/- The rows' arguments of law 18 opened: a slice of deeds. -/
import Derived.Test.YtacmigimkdiagaaPlanFns
import Derived.Test.YtacmigimkdiagaaOpenR
namespace Go.Proofs.Ytacmigimkdiagaa
open Go.ChangeShapes Go.WideShapes Go.ChangeAt Go.RowKit Go.Joins Go.Deep
set_option linter.unusedVariables false
set_option linter.unusedSimpArgs false

theorem open_plan {H : Type} {enc : TypeId × Value → H} {w : World} {a : Option Addr} {len cap : Nat} {d : DataW H} {p : List MemPlace} (h : DataW.Trod enc Try.prog w 0 (fun _ => true) true 25 (.slice a len cap) d p) :
    ∃ l, PlanAt w (.slice a len cap) l ∧ ∀ e ∈ l, True := by
  refine open_rows Try.underlying25 (by kernel_rfl) (by decide) deedRow_len ?_ h
  intro n cs x hl ht
  obtain ⟨xs, k, hk, hxy, _, hxl, hf⟩ := DataW.trod_struct Try.underlying36 ht
  match xs, hxl, cs, hl with
  | [y0, y1], _, [v0, v1], _ =>
    have g0 := hf 0 _ rfl
    have g1 := hf 1 _ rfl
    have hci : Try.prog.cellsOf 3 = 1 := by kernel_rfl
    simp only [List.getElem?_cons_zero, List.getElem?_cons_succ, Option.some.injEq] at g0 g1
    simp [hci] at g0 g1
    obtain ⟨s0, e0, _, w0⟩ := DataW.trod_int Try.underlying3 g0
    obtain ⟨s1, e1, _, w1⟩ := DataW.trod_int Try.underlying3 g1
    simp at e0 e1
    subst e0 e1
    exact ⟨(s0, s1), trivial, rfl⟩

end Go.Proofs.Ytacmigimkdiagaa
