/-
  No cell of these rows narrows 'for every input' (looked for: loops, veiled, ifaces, maps, wideKeys, modest, calm, conditions, laid).
  DERIVED. THE GIVEN ROWS OF THIS SEAT. 7 by the template 'for every input the law returns true; each argument reads behind the call as it read before'; 0 by the template 'total and deterministic' (their statements: YteaahepjendjmaaTotals.lean).
  GIVEN WITH THE SEED: the statements are not yours to turn. If you find one false, say at which input.
  Laid BY PROGRAM, IN A SANDBOX (cutbox-rows.mjs): the forced cells as the released guide's own fill.sh prints them over the translation 28e9cfaf1246cfa5… (all of the seat's roots in one cut). By AI agents, Wed Nov 11 2026. No macro, syntax, notation, axiom, sorry.
-/
import Derived.Test.YteaahepjendjmaaChecked
import GoSem.Claim
import GoSem.ClaimJoined
import GoSem.ClaimMapViews
import Derived.JoinedTies
import Derived.KernelRfl
namespace Go.Proofs.Yteaahepjendjmaa
/- THE CELL 'sum', in the pinned program and in every row, IS THE sha256 OF THE DUMP (.gsa) THAT YteaahepjendjmaaProg.lean LOADS. Nothing in Lean hashes anything: it is a label: what it is worth is what the hold of that sum in a sandbox is worth. -/
noncomputable def Try.pinned : Pinned := { name := "yteaahepjendjmaa", sum := "28e9cfaf1246cfa5dc119992a6e2f47a908f29539ca5929585d5eeddc114c3a3", checked := Try.checked }
namespace Rows
def none {H : Type} : Left H := { results := [], args := [] }

/-- 'deckhandlaw19.HistRight': WHATEVER THE INPUT: true; the input reads as it did. -/
def histRightSpec : ChangeSpec := { name := "histRight", fn := fun _ => fun
  | [d] => { results := [.lit (.bool true)], args := [d] }
  | _ => none }
def histRightRow : OpenClaim := { program := "yteaahepjendjmaa", sum := "28e9cfaf1246cfa5dc119992a6e2f47a908f29539ca5929585d5eeddc114c3a3", func := "deckhand/deckhandlaw19.HistRight", spec := "histRight", unfollowed := true, recurses := true, plainKeys := false, apart := false }
def HistRightSaid : Prop := histRightRow.holds Try.pinned (OpenSpec.ofChange histRightSpec)

/-- ITS FALSE NEIGHBOUR: 'it returns false'. Refute it at one input. -/
def histRightWrong : ChangeSpec := { name := "histRight", fn := fun _ => fun
  | [d] => { results := [.lit (.bool false)], args := [d] }
  | _ => none }
def HistRightWrongFalsely : Prop := histRightRow.holds Try.pinned (OpenSpec.ofChange histRightWrong)

/-- 'deckhandlaw19.HistDone': WHATEVER THE INPUT: true; the input reads as it did. -/
def histDoneSpec : ChangeSpec := { name := "histDone", fn := fun _ => fun
  | [d] => { results := [.lit (.bool true)], args := [d] }
  | _ => none }
def histDoneRow : OpenClaim := { program := "yteaahepjendjmaa", sum := "28e9cfaf1246cfa5dc119992a6e2f47a908f29539ca5929585d5eeddc114c3a3", func := "deckhand/deckhandlaw19.HistDone", spec := "histDone", unfollowed := true, recurses := true, plainKeys := false, apart := false }
def HistDoneSaid : Prop := histDoneRow.holds Try.pinned (OpenSpec.ofChange histDoneSpec)

/-- ITS FALSE NEIGHBOUR: 'it returns false'. Refute it at one input. -/
def histDoneWrong : ChangeSpec := { name := "histDone", fn := fun _ => fun
  | [d] => { results := [.lit (.bool false)], args := [d] }
  | _ => none }
def HistDoneWrongFalsely : Prop := histDoneRow.holds Try.pinned (OpenSpec.ofChange histDoneWrong)

/-- 'deckhandlaw19.HistOrder': WHATEVER THE INPUT: true; the input reads as it did. -/
def histOrderSpec : ChangeSpec := { name := "histOrder", fn := fun _ => fun
  | [d1, d2, d3, d4] => { results := [.lit (.bool true)], args := [d1, d2, d3, d4] }
  | _ => none }
def histOrderRow : OpenClaim := { program := "yteaahepjendjmaa", sum := "28e9cfaf1246cfa5dc119992a6e2f47a908f29539ca5929585d5eeddc114c3a3", func := "deckhand/deckhandlaw19.HistOrder", spec := "histOrder", unfollowed := true, recurses := true, plainKeys := false, apart := false }
def HistOrderSaid : Prop := histOrderRow.holds Try.pinned (OpenSpec.ofChange histOrderSpec)

/-- ITS FALSE NEIGHBOUR: 'it returns false'. Refute it at one input. -/
def histOrderWrong : ChangeSpec := { name := "histOrder", fn := fun _ => fun
  | [d1, d2, d3, d4] => { results := [.lit (.bool false)], args := [d1, d2, d3, d4] }
  | _ => none }
def HistOrderWrongFalsely : Prop := histOrderRow.holds Try.pinned (OpenSpec.ofChange histOrderWrong)

/-- 'deckhandlaw34.WaitTells': WHATEVER THE INPUT: true; the input reads as it did. -/
def waitTellsSpec : ChangeSpec := { name := "waitTells", fn := fun _ => fun
  | [d1, d2] => { results := [.lit (.bool true)], args := [d1, d2] }
  | _ => none }
def waitTellsRow : OpenClaim := { program := "yteaahepjendjmaa", sum := "28e9cfaf1246cfa5dc119992a6e2f47a908f29539ca5929585d5eeddc114c3a3", func := "deckhand/deckhandlaw34.WaitTells", spec := "waitTells", unfollowed := true, recurses := true, plainKeys := false, apart := false }
def WaitTellsSaid : Prop := waitTellsRow.holds Try.pinned (OpenSpec.ofChange waitTellsSpec)

/-- ITS FALSE NEIGHBOUR: 'it returns false'. Refute it at one input. -/
def waitTellsWrong : ChangeSpec := { name := "waitTells", fn := fun _ => fun
  | [d1, d2] => { results := [.lit (.bool false)], args := [d1, d2] }
  | _ => none }
def WaitTellsWrongFalsely : Prop := waitTellsRow.holds Try.pinned (OpenSpec.ofChange waitTellsWrong)

/-- 'deckhandlaw34.WaitOpen': WHATEVER THE INPUT: true; the input reads as it did. -/
def waitOpenSpec : ChangeSpec := { name := "waitOpen", fn := fun _ => fun
  | [d1, d2, d3] => { results := [.lit (.bool true)], args := [d1, d2, d3] }
  | _ => none }
def waitOpenRow : OpenClaim := { program := "yteaahepjendjmaa", sum := "28e9cfaf1246cfa5dc119992a6e2f47a908f29539ca5929585d5eeddc114c3a3", func := "deckhand/deckhandlaw34.WaitOpen", spec := "waitOpen", unfollowed := true, recurses := true, plainKeys := false, apart := false }
def WaitOpenSaid : Prop := waitOpenRow.holds Try.pinned (OpenSpec.ofChange waitOpenSpec)

/-- ITS FALSE NEIGHBOUR: 'it returns false'. Refute it at one input. -/
def waitOpenWrong : ChangeSpec := { name := "waitOpen", fn := fun _ => fun
  | [d1, d2, d3] => { results := [.lit (.bool false)], args := [d1, d2, d3] }
  | _ => none }
def WaitOpenWrongFalsely : Prop := waitOpenRow.holds Try.pinned (OpenSpec.ofChange waitOpenWrong)

/-- 'deckhandlaw34.WaitAdds': WHATEVER THE INPUT: true; the input reads as it did. -/
def waitAddsSpec : ChangeSpec := { name := "waitAdds", fn := fun _ => fun
  | [d1, d2] => { results := [.lit (.bool true)], args := [d1, d2] }
  | _ => none }
def waitAddsRow : OpenClaim := { program := "yteaahepjendjmaa", sum := "28e9cfaf1246cfa5dc119992a6e2f47a908f29539ca5929585d5eeddc114c3a3", func := "deckhand/deckhandlaw34.WaitAdds", spec := "waitAdds", unfollowed := true, recurses := true, plainKeys := false, apart := false }
def WaitAddsSaid : Prop := waitAddsRow.holds Try.pinned (OpenSpec.ofChange waitAddsSpec)

/-- ITS FALSE NEIGHBOUR: 'it returns false'. Refute it at one input. -/
def waitAddsWrong : ChangeSpec := { name := "waitAdds", fn := fun _ => fun
  | [d1, d2] => { results := [.lit (.bool false)], args := [d1, d2] }
  | _ => none }
def WaitAddsWrongFalsely : Prop := waitAddsRow.holds Try.pinned (OpenSpec.ofChange waitAddsWrong)

/-- 'deckhandlaw34.WaitAlone': WHATEVER THE INPUT: true; the input reads as it did. -/
def waitAloneSpec : ChangeSpec := { name := "waitAlone", fn := fun _ => fun
  | [d1, d2] => { results := [.lit (.bool true)], args := [d1, d2] }
  | _ => none }
def waitAloneRow : OpenClaim := { program := "yteaahepjendjmaa", sum := "28e9cfaf1246cfa5dc119992a6e2f47a908f29539ca5929585d5eeddc114c3a3", func := "deckhand/deckhandlaw34.WaitAlone", spec := "waitAlone", unfollowed := true, recurses := true, plainKeys := false, apart := false }
def WaitAloneSaid : Prop := waitAloneRow.holds Try.pinned (OpenSpec.ofChange waitAloneSpec)

/-- ITS FALSE NEIGHBOUR: 'it returns false'. Refute it at one input. -/
def waitAloneWrong : ChangeSpec := { name := "waitAlone", fn := fun _ => fun
  | [d1, d2] => { results := [.lit (.bool false)], args := [d1, d2] }
  | _ => none }
def WaitAloneWrongFalsely : Prop := waitAloneRow.holds Try.pinned (OpenSpec.ofChange waitAloneWrong)

/- THE SECOND FORM. 'bulk': how many values and letters a reading holds, each counted each time it is reached (what is shared counts as often as it is met; a slice's spare places count too). A statement '..UptoSaid' is the law's where the arguments, and the package variables that the reading takes, are together of bulk at most 1048576: NARROWER than '..Said'. Prove '..Said' where nothing that the law and all that it calls make is longer than what came in: it says more and counts as full. Else prove '..UptoSaid'. A law counts once. -/
mutual
def uptoBulk {H : Type} : DataW H → Nat
  | .lit (.string bytes) => bytes.length + 1
  | .lit _ => 1
  | .nil => 1
  | .ptr d => uptoBulk d + 1
  | .slice elems spare => uptoBulkAll elems + uptoBulkAll spare + 1
  | .agg parts => uptoBulkAll parts + 1
  | .iface _ d => uptoBulk d + 1
  | .map entries => uptoBulkEntries entries + 1
  | .held _ => 1
def uptoBulkAll {H : Type} : List (DataW H) → Nat
  | [] => 0
  | d :: r => uptoBulk d + uptoBulkAll r
def uptoBulkEntries {H : Type} : List (Lit × DataW H) → Nat
  | [] => 0
  | x :: r => uptoBulkEntry x + uptoBulkEntries r
def uptoBulkEntry {H : Type} : Lit × DataW H → Nat
  | (.string bytes, d) => bytes.length + uptoBulk d + 1
  | (_, d) => uptoBulk d + 1
 end
def uptoSmall : (H : Type) → List (DataW H) → Bool := fun _ ds => decide (uptoBulkAll ds ≤ 1048576)
def OpenSpec.upto (s : _root_.Go.ChangeSpec) : _root_.Go.OpenSpec := { _root_.Go.OpenSpec.ofChange s with cond := some uptoSmall }

/-- 'deckhandlaw19.HistRight', WHERE WHAT IT READS IS OF BULK AT MOST 1048576: true; the input reads as it did. -/
def histRightUptoRow : OpenClaim := { program := "yteaahepjendjmaa", sum := "28e9cfaf1246cfa5dc119992a6e2f47a908f29539ca5929585d5eeddc114c3a3", func := "deckhand/deckhandlaw19.HistRight", spec := "histRight", unfollowed := true, recurses := true, plainKeys := false, apart := false, narrowed := true }
def HistRightUptoSaid : Prop := histRightUptoRow.holds Try.pinned (OpenSpec.upto histRightSpec)

/-- 'deckhandlaw19.HistDone', WHERE WHAT IT READS IS OF BULK AT MOST 1048576: true; the input reads as it did. -/
def histDoneUptoRow : OpenClaim := { program := "yteaahepjendjmaa", sum := "28e9cfaf1246cfa5dc119992a6e2f47a908f29539ca5929585d5eeddc114c3a3", func := "deckhand/deckhandlaw19.HistDone", spec := "histDone", unfollowed := true, recurses := true, plainKeys := false, apart := false, narrowed := true }
def HistDoneUptoSaid : Prop := histDoneUptoRow.holds Try.pinned (OpenSpec.upto histDoneSpec)

/-- 'deckhandlaw19.HistOrder', WHERE WHAT IT READS IS OF BULK AT MOST 1048576: true; the input reads as it did. -/
def histOrderUptoRow : OpenClaim := { program := "yteaahepjendjmaa", sum := "28e9cfaf1246cfa5dc119992a6e2f47a908f29539ca5929585d5eeddc114c3a3", func := "deckhand/deckhandlaw19.HistOrder", spec := "histOrder", unfollowed := true, recurses := true, plainKeys := false, apart := false, narrowed := true }
def HistOrderUptoSaid : Prop := histOrderUptoRow.holds Try.pinned (OpenSpec.upto histOrderSpec)

/-- 'deckhandlaw34.WaitTells', WHERE WHAT IT READS IS OF BULK AT MOST 1048576: true; the input reads as it did. -/
def waitTellsUptoRow : OpenClaim := { program := "yteaahepjendjmaa", sum := "28e9cfaf1246cfa5dc119992a6e2f47a908f29539ca5929585d5eeddc114c3a3", func := "deckhand/deckhandlaw34.WaitTells", spec := "waitTells", unfollowed := true, recurses := true, plainKeys := false, apart := false, narrowed := true }
def WaitTellsUptoSaid : Prop := waitTellsUptoRow.holds Try.pinned (OpenSpec.upto waitTellsSpec)

/-- 'deckhandlaw34.WaitOpen', WHERE WHAT IT READS IS OF BULK AT MOST 1048576: true; the input reads as it did. -/
def waitOpenUptoRow : OpenClaim := { program := "yteaahepjendjmaa", sum := "28e9cfaf1246cfa5dc119992a6e2f47a908f29539ca5929585d5eeddc114c3a3", func := "deckhand/deckhandlaw34.WaitOpen", spec := "waitOpen", unfollowed := true, recurses := true, plainKeys := false, apart := false, narrowed := true }
def WaitOpenUptoSaid : Prop := waitOpenUptoRow.holds Try.pinned (OpenSpec.upto waitOpenSpec)

/-- 'deckhandlaw34.WaitAdds', WHERE WHAT IT READS IS OF BULK AT MOST 1048576: true; the input reads as it did. -/
def waitAddsUptoRow : OpenClaim := { program := "yteaahepjendjmaa", sum := "28e9cfaf1246cfa5dc119992a6e2f47a908f29539ca5929585d5eeddc114c3a3", func := "deckhand/deckhandlaw34.WaitAdds", spec := "waitAdds", unfollowed := true, recurses := true, plainKeys := false, apart := false, narrowed := true }
def WaitAddsUptoSaid : Prop := waitAddsUptoRow.holds Try.pinned (OpenSpec.upto waitAddsSpec)

/-- 'deckhandlaw34.WaitAlone', WHERE WHAT IT READS IS OF BULK AT MOST 1048576: true; the input reads as it did. -/
def waitAloneUptoRow : OpenClaim := { program := "yteaahepjendjmaa", sum := "28e9cfaf1246cfa5dc119992a6e2f47a908f29539ca5929585d5eeddc114c3a3", func := "deckhand/deckhandlaw34.WaitAlone", spec := "waitAlone", unfollowed := true, recurses := true, plainKeys := false, apart := false, narrowed := true }
def WaitAloneUptoSaid : Prop := waitAloneUptoRow.holds Try.pinned (OpenSpec.upto waitAloneSpec)

end Rows
end Go.Proofs.Yteaahepjendjmaa
