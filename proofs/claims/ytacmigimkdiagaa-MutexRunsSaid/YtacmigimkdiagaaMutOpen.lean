/- The row's arguments of law 17 opened: a slice of locks and unlocks. -/
import Derived.Test.YtacmigimkdiagaaMutRuns
namespace Go.Proofs.Ytacmigimkdiagaa
open Go.ChangeShapes Go.WideShapes Go.ChangeAt Go.RowKit Go.Joins Go.Deep
set_option linter.unusedVariables false
set_option linter.unusedSimpArgs false

theorem open_grips {H : Type} {enc : TypeId × Value → H} {w : World} {a : Option Addr} {len cap : Nat} {d : DataW H} {p : List MemPlace} (h : DataW.Trod enc Try.prog w 0 (fun _ => true) true 46 (.slice a len cap) d p) :
    ∃ l, GripsAt w (.slice a len cap) l ∧ ∀ e ∈ l, True := by
  refine open_rows Try.underlying46 (by kernel_rfl) (by decide) gripRow_len ?_ h
  intro n cs x hl ht
  obtain ⟨xs, k, hk, hxy, _, hxl, hf⟩ := DataW.trod_struct Try.underlying49 ht
  match xs, hxl, cs, hl with
  | [y0, y1, y2], _, [v0, v1, v2], _ =>
    have g0 := hf 0 _ rfl
    have g1 := hf 1 _ rfl
    have g2 := hf 2 _ rfl
    have hci : Try.prog.cellsOf 3 = 1 := by kernel_rfl
    have hcb : Try.prog.cellsOf 4 = 1 := by kernel_rfl
    simp only [List.getElem?_cons_zero, List.getElem?_cons_succ, Option.some.injEq] at g0 g1 g2
    simp [hci, hcb] at g0 g1 g2
    obtain ⟨s0, e0, _⟩ := DataW.trod_bool Try.underlying4 g0
    obtain ⟨s1, e1, _, w1⟩ := DataW.trod_int Try.underlying3 g1
    obtain ⟨s2, e2, _, w2⟩ := DataW.trod_int Try.underlying3 g2
    simp at e0 e1 e2
    subst e0 e1 e2
    exact ⟨(s0, s1, s2), trivial, rfl⟩

end Go.Proofs.Ytacmigimkdiagaa
