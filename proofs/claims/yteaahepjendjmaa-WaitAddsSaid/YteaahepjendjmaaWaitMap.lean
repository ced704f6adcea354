/- A map from calls to spans that a call has made: what it holds, look-ups, stores. -/
import Derived.Test.YteaahepjendjmaaHistFits
namespace Go.Proofs.Yteaahepjendjmaa
open Go.RowKit Go.Maps
set_option linter.unusedVariables false
set_option linter.unusedSimpArgs false

abbrev Span := Int × Int × Int
abbrev spanV (s : Span) : Value := .agg #[.int .i64 s.1, .int .i64 s.2.1, .int .i64 s.2.2]
def spanD (s : Span) : DataW Unit := .agg [.lit (.int .i64 s.1), .lit (.int .i64 s.2.1), .lit (.int .i64 s.2.2)]
theorem spanV_inj {s t : Span} (h : spanV s = spanV t) : s = t := by
  simp only [Value.agg.injEq] at h
  have h4 := congrArg Array.toList h
  simp at h4
  exact Prod.ext h4.1 (Prod.ext h4.2.1 h4.2.2)
theorem spanD_inj {s t : Span} (h : spanD s = spanD t) : s = t := by
  unfold spanD at h
  simp at h
  exact Prod.ext h.1 (Prod.ext h.2.1 h.2.2)
open Classical in
/-- How a span reads, as an element of a map. -/
noncomputable def spanElem (v : Value) : Option (DataW Unit × List MemPlace) := if h : ∃ s, v = spanV s then some (spanD h.choose, []) else none
theorem spanElem_mk (s : Span) : spanElem (spanV s) = some (spanD s, []) := by
  have h : ∃ t, spanV s = spanV t := ⟨s, rfl⟩
  unfold spanElem
  rw [dif_pos h, ← spanV_inj h.choose_spec]
theorem spanElem_inv {v : Value} {z : DataW Unit × List MemPlace} (h : spanElem v = some z) : ∃ s, v = spanV s ∧ z = (spanD s, []) := by
  unfold spanElem at h
  split at h
  · rename_i hs
    cases h
    exact ⟨_, hs.choose_spec, rfl⟩
  · cases h

/-- Block b is a map of at most n spans: g says what it holds. -/
def SpanMap (w : World) (b n : Nat) (g : Int × Int → Option Span) : Prop :=
  ∃ D, w.ownsMap Try.prog 31 spanElem b n D ∧ IsMap D ∧ ∀ c, WfC c → Maps.has D (callKey c) = (g c).isSome ∧ D.atKey (callKey c) (spanD (0, 0, 0)) = spanD ((g c).getD (0, 0, 0))
theorem SpanMap.made (w : World) : SpanMap (w.alloc (.map #[] 0)) w.heap.size 0 (fun _ => none) :=
  ⟨.map [], World.ownsMap_made _ _ _ _, isMap_empty, fun c hc => ⟨rfl, rfl⟩⟩
theorem SpanMap.below {w w' : World} {b n : Nat} {g : Int × Int → Option Span} (h : SpanMap w b n g) (hb : Below w.heap.size w w') : SpanMap w' b n g := by
  obtain ⟨D, h1, h2⟩ := h
  exact ⟨D, Below.ownsMap hb h1, h2⟩
theorem SpanMap.alloc {w : World} {b n : Nat} {g : Int × Int → Option Span} (h : SpanMap w b n g) (o : Obj) : SpanMap (w.alloc o) b n g := h.below ((Below.refl _ _).alloc (Nat.le_refl _) o)
theorem SpanMap.kept {w w' : World} {b n : Nat} {g : Int × Int → Option Span} {row : Option Nat} (h : SpanMap w b n g) (hg : w.grownBy w' row) (hne : some b ≠ row) : SpanMap w' b n g := by
  obtain ⟨D, h1, h2⟩ := h
  exact ⟨D, h1.kept hg hne, h2⟩
theorem SpanMap.lt {w : World} {b n : Nat} {g : Int × Int → Option Span} (h : SpanMap w b n g) : b < w.heap.size := by
  obtain ⟨D, h1, h2⟩ := h
  exact h1.lt
theorem SpanMap.congr {w : World} {b n : Nat} {g g' : Int × Int → Option Span} (h : SpanMap w b n g) (hg : ∀ c, WfC c → g' c = g c) : SpanMap w b n g' := by
  obtain ⟨D, h1, h2, h3⟩ := h
  exact ⟨D, h1, h2, fun c hc => by rw [hg c hc]; exact h3 c hc⟩

theorem zeroSpan (w : World) : (zeroValue 65).run Try.prog w = .ok (spanV (0, 0, 0)) w := by kernel_rfl

/-- The look-up's run. -/
theorem SpanMap.run {w : World} {b n : Nat} {g : Int × Int → Option Span} (h : SpanMap w b n g) {c : Int × Int} (hc : WfC c) :
    (Instr.lookup 61 (.map (some b)) (callV c) false).run Try.prog w = .ok (spanV ((g c).getD (0, 0, 0))) w := by
  obtain ⟨D, h1, h2, h3⟩ := h
  obtain ⟨v, ps, hrun, hv⟩ := h1.lookup lawCall Try.underlying61 (zeroSpan w) (spanElem_mk _) (callKey_of c hc.1 hc.2)
  rw [(h3 c hc).2] at hv
  obtain ⟨s, rfl, hs⟩ := spanElem_inv hv
  simp only [Prod.mk.injEq] at hs
  rw [hrun, spanD_inj hs.1]
theorem SpanMap.run_ok {w : World} {b n : Nat} {g : Int × Int → Option Span} (h : SpanMap w b n g) {c : Int × Int} (hc : WfC c) :
    (Instr.lookup 61 (.map (some b)) (callV c) true).run Try.prog w = .ok (.tuple #[spanV ((g c).getD (0, 0, 0)), .bool (g c).isSome]) w := by
  obtain ⟨D, h1, h2, h3⟩ := h
  obtain ⟨v, ps, hrun, hv⟩ := h1.look_ok lawCall Try.underlying61 (zeroSpan w) (spanElem_mk _) (callKey_of c hc.1 hc.2)
  rw [(h3 c hc).2] at hv
  obtain ⟨s, rfl, hs⟩ := spanElem_inv hv
  simp only [Prod.mk.injEq] at hs
  rw [hrun, spanD_inj hs.1, (h3 c hc).1]

section
variable {w : World} {ops : Array Oper} {rest : List Oper} {o : Oper} {a : Act} {Q : Exit → Act → World → Prop} {b n : Nat} {g : Int × Int → Option Span}
/-- 'm[k]' at the operation. -/
theorem wpList_look_span (hg : o.guard = none) (m x : Operand) (hop : o.op = Op.lookup 61 m x false) (hm : a.eval m = .map (some b)) (h : SpanMap w b n g) (c : Int × Int) (hx : a.eval x = callV c) (hc : WfC c)
    (hK : wpList Try.prog ops Q rest (a.put o.dst (spanV ((g c).getD (0, 0, 0)))) w) : wpList Try.prog ops Q (o :: rest) a w := by
  refine wpList_plain hg fun K' hK' => ?_
  unfold Oper.wp
  simp [execOp, hop, hm, hx, h.run hc, Result.andThen]
  exact hK' _ _ hK
theorem wpList_look_span_ok (hg : o.guard = none) (m x : Operand) (hop : o.op = Op.lookup 61 m x true) (hm : a.eval m = .map (some b)) (h : SpanMap w b n g) (c : Int × Int) (hx : a.eval x = callV c) (hc : WfC c)
    (hK : wpList Try.prog ops Q rest (a.put o.dst (.tuple #[spanV ((g c).getD (0, 0, 0)), .bool (g c).isSome])) w) : wpList Try.prog ops Q (o :: rest) a w := by
  refine wpList_plain hg fun K' hK' => ?_
  unfold Oper.wp
  simp [execOp, hop, hm, hx, h.run_ok hc, Result.andThen]
  exact hK' _ _ hK
/-- 'm[k] = s' at the operation. -/
theorem wpList_put_span (hg : o.guard = none) (m x v : Operand) (hop : o.op = Op.mapUpdate 61 m x v) (hm : a.eval m = .map (some b)) (h : SpanMap w b n g) (hn : n < maxLen) (c : Int × Int) (hx : a.eval x = callV c) (hc : WfC c) (s : Span) (hv : a.eval v = spanV s)
    (hK : ∀ w', SpanMap w' b (n + 1) (fun d => if d = c then some s else g d) → w.grownBy w' (some b) → wpList Try.prog ops Q rest (a.put o.dst undef) w') : wpList Try.prog ops Q (o :: rest) a w := by
  obtain ⟨D, h1, h2, h3⟩ := h
  refine wpList_mapUpdate_own w hg m x v _ hop _ _ lawCall Try.underlying61 spanElem b n D hm h1 hn _ _ _ hx hv (callKey_of c hc.1 hc.2) _ _ (spanElem_mk s) fun w' h4 h5 => hK w' ⟨_, h4, h2.put _ _, fun d hd => ?_⟩ h5
  by_cases hdc : d = c
  · subst hdc
    rw [has_put_same h2 (lawCall.key (callKey_of d hc.1 hc.2)), atKey_put_same h2 (lawCall.key (callKey_of d hc.1 hc.2))]
    simp
  · have hne : callKey d ≠ callKey c := fun h => hdc (callKey_inj hd hc h)
    rw [has_put_other hne, atKey_put_other hne]
    simp only [if_neg hdc]
    exact h3 d hd
end

end Go.Proofs.Yteaahepjendjmaa
