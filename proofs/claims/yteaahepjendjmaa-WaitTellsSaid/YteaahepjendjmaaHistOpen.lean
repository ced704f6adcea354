/- The rows' arguments of laws 19 and 34 opened: a slice of events. -/
import Derived.Test.YteaahepjendjmaaHistFits
import Derived.Test.YteaahepjendjmaaOpenR
namespace Go.Proofs.Yteaahepjendjmaa
open Go.ChangeShapes Go.WideShapes Go.ChangeAt Go.RowKit Go.Joins Go.Deep
set_option linter.unusedVariables false
set_option linter.unusedSimpArgs false

/-- An event whose numbers are numbers of Go. -/
def WfE (e : Ev) : Prop := (Lit.int .i64 e.k).wf = true ∧ (Lit.int .i64 e.w).wf = true ∧ (Lit.int .i64 e.n).wf = true ∧ (Lit.int .i64 e.t).wf = true
theorem WfE.call {e : Ev} (h : WfE e) : WfC (ofE e) := ⟨h.2.1, h.2.2.1⟩
theorem open_evs {H : Type} {enc : TypeId × Value → H} {w : World} {a : Option Addr} {len cap : Nat} {d : DataW H} {p : List MemPlace} (h : DataW.Trod enc Try.prog w 0 (fun _ => true) true 22 (.slice a len cap) d p) :
    ∃ l, EvsAt w (.slice a len cap) l ∧ ∀ e ∈ l, WfE e := by
  refine open_rows Try.underlying22 (by kernel_rfl) (by decide) evRow_len ?_ h
  intro n cs x hl ht
  obtain ⟨xs, k, hk, hxy, _, hxl, hf⟩ := DataW.trod_struct Try.underlying48 ht
  match xs, hxl, cs, hl with
  | [y0, y1, y2, y3], _, [v0, v1, v2, v3], _ =>
    have g0 := hf 0 _ rfl
    have g1 := hf 1 _ rfl
    have g2 := hf 2 _ rfl
    have g3 := hf 3 _ rfl
    have hci : Try.prog.cellsOf 3 = 1 := by kernel_rfl
    simp only [List.getElem?_cons_zero, List.getElem?_cons_succ, Option.some.injEq] at g0 g1 g2 g3
    simp [hci] at g0 g1 g2 g3
    obtain ⟨s0, e0, _, w0⟩ := DataW.trod_int Try.underlying3 g0
    obtain ⟨s1, e1, _, w1⟩ := DataW.trod_int Try.underlying3 g1
    obtain ⟨s2, e2, _, w2⟩ := DataW.trod_int Try.underlying3 g2
    obtain ⟨s3, e3, _, w3⟩ := DataW.trod_int Try.underlying3 g3
    simp at e0 e1 e2 e3
    subst e0 e1 e2 e3
    exact ⟨⟨s0, s1, s2, s3⟩, ⟨w0, w1, w2, w3⟩, rfl⟩

end Go.Proofs.Yteaahepjendjmaa
