/-
  No cell of these rows narrows 'for every input' (looked for: loops, veiled, ifaces, maps, wideKeys, modest, calm, conditions, laid).
  DERIVED. THE GIVEN ROWS OF THIS SEAT. 8 by the template 'for every input the law returns true; each argument reads behind the call as it read before'; 0 by the template 'total and deterministic' (their statements: YtacmigimkdiagaaTotals.lean).
  GIVEN WITH THE SEED: the statements are not yours to turn. If you find one false, say at which input.
  Laid BY PROGRAM, IN A SANDBOX (cutbox-rows.mjs): the forced cells as the released guide's own fill.sh prints them over the translation db1306f7b4729aeb… (all of the seat's roots in one cut). By AI agents, Wed Nov 11 2026. No macro, syntax, notation, axiom, sorry.
-/
import Derived.Test.YtacmigimkdiagaaChecked
import GoSem.Claim
import GoSem.ClaimJoined
import GoSem.ClaimMapViews
import Derived.JoinedTies
import Derived.KernelRfl
namespace Go.Proofs.Ytacmigimkdiagaa
/- THE CELL 'sum', in the pinned program and in every row, IS THE sha256 OF THE DUMP (.gsa) THAT YtacmigimkdiagaaProg.lean LOADS. Nothing in Lean hashes anything: it is a label: what it is worth is what the hold of that sum in a sandbox is worth. -/
noncomputable def Try.pinned : Pinned := { name := "ytacmigimkdiagaa", sum := "db1306f7b4729aeb8a630c20c1f42a71ae8ede592a8eead238e9ab362df3e09d", checked := Try.checked }
namespace Rows
def none {H : Type} : Left H := { results := [], args := [] }

/-- 'deckhandlaw18.PlanMakes': WHATEVER THE INPUT: true; the input reads as it did. -/
def planMakesSpec : ChangeSpec := { name := "planMakes", fn := fun _ => fun
  | [d1, d2, d3] => { results := [.lit (.bool true)], args := [d1, d2, d3] }
  | _ => none }
def planMakesRow : OpenClaim := { program := "ytacmigimkdiagaa", sum := "db1306f7b4729aeb8a630c20c1f42a71ae8ede592a8eead238e9ab362df3e09d", func := "deckhand/deckhandlaw18.PlanMakes", spec := "planMakes", unfollowed := true, recurses := true, apart := false }
def PlanMakesSaid : Prop := planMakesRow.holds Try.pinned (OpenSpec.ofChange planMakesSpec)

/-- ITS FALSE NEIGHBOUR: 'it returns false'. Refute it at one input. -/
def planMakesWrong : ChangeSpec := { name := "planMakes", fn := fun _ => fun
  | [d1, d2, d3] => { results := [.lit (.bool false)], args := [d1, d2, d3] }
  | _ => none }
def PlanMakesWrongFalsely : Prop := planMakesRow.holds Try.pinned (OpenSpec.ofChange planMakesWrong)

/-- 'deckhandlaw18.PlanTells': WHATEVER THE INPUT: true; the input reads as it did. -/
def planTellsSpec : ChangeSpec := { name := "planTells", fn := fun _ => fun
  | [d1, d2] => { results := [.lit (.bool true)], args := [d1, d2] }
  | _ => none }
def planTellsRow : OpenClaim := { program := "ytacmigimkdiagaa", sum := "db1306f7b4729aeb8a630c20c1f42a71ae8ede592a8eead238e9ab362df3e09d", func := "deckhand/deckhandlaw18.PlanTells", spec := "planTells", unfollowed := true, recurses := true, apart := false }
def PlanTellsSaid : Prop := planTellsRow.holds Try.pinned (OpenSpec.ofChange planTellsSpec)

/-- ITS FALSE NEIGHBOUR: 'it returns false'. Refute it at one input. -/
def planTellsWrong : ChangeSpec := { name := "planTells", fn := fun _ => fun
  | [d1, d2] => { results := [.lit (.bool false)], args := [d1, d2] }
  | _ => none }
def PlanTellsWrongFalsely : Prop := planTellsRow.holds Try.pinned (OpenSpec.ofChange planTellsWrong)

/-- 'deckhandlaw18.PlanTwo': WHATEVER THE INPUT: true; the input reads as it did. -/
def planTwoSpec : ChangeSpec := { name := "planTwo", fn := fun _ => fun
  | [d1, d2] => { results := [.lit (.bool true)], args := [d1, d2] }
  | _ => none }
def planTwoRow : OpenClaim := { program := "ytacmigimkdiagaa", sum := "db1306f7b4729aeb8a630c20c1f42a71ae8ede592a8eead238e9ab362df3e09d", func := "deckhand/deckhandlaw18.PlanTwo", spec := "planTwo", unfollowed := true, recurses := true, apart := false }
def PlanTwoSaid : Prop := planTwoRow.holds Try.pinned (OpenSpec.ofChange planTwoSpec)

/-- ITS FALSE NEIGHBOUR: 'it returns false'. Refute it at one input. -/
def planTwoWrong : ChangeSpec := { name := "planTwo", fn := fun _ => fun
  | [d1, d2] => { results := [.lit (.bool false)], args := [d1, d2] }
  | _ => none }
def PlanTwoWrongFalsely : Prop := planTwoRow.holds Try.pinned (OpenSpec.ofChange planTwoWrong)

/-- 'deckhandlaw18.PlanBack': WHATEVER THE INPUT: true; the input reads as it did. -/
def planBackSpec : ChangeSpec := { name := "planBack", fn := fun _ => fun
  | [d1, d2, d3] => { results := [.lit (.bool true)], args := [d1, d2, d3] }
  | _ => none }
def planBackRow : OpenClaim := { program := "ytacmigimkdiagaa", sum := "db1306f7b4729aeb8a630c20c1f42a71ae8ede592a8eead238e9ab362df3e09d", func := "deckhand/deckhandlaw18.PlanBack", spec := "planBack", unfollowed := true, recurses := true, apart := false }
def PlanBackSaid : Prop := planBackRow.holds Try.pinned (OpenSpec.ofChange planBackSpec)

/-- ITS FALSE NEIGHBOUR: 'it returns false'. Refute it at one input. -/
def planBackWrong : ChangeSpec := { name := "planBack", fn := fun _ => fun
  | [d1, d2, d3] => { results := [.lit (.bool false)], args := [d1, d2, d3] }
  | _ => none }
def PlanBackWrongFalsely : Prop := planBackRow.holds Try.pinned (OpenSpec.ofChange planBackWrong)

/-- 'deckhandlaw17.MutexDoes': WHATEVER THE INPUT: true; the input reads as it did. -/
def mutexDoesSpec : ChangeSpec := { name := "mutexDoes", fn := fun _ => fun
  | [d1, d2, d3] => { results := [.lit (.bool true)], args := [d1, d2, d3] }
  | _ => none }
def mutexDoesRow : OpenClaim := { program := "ytacmigimkdiagaa", sum := "db1306f7b4729aeb8a630c20c1f42a71ae8ede592a8eead238e9ab362df3e09d", func := "deckhand/deckhandlaw17.MutexDoes", spec := "mutexDoes", unfollowed := true, recurses := true, apart := false }
def MutexDoesSaid : Prop := mutexDoesRow.holds Try.pinned (OpenSpec.ofChange mutexDoesSpec)

/-- ITS FALSE NEIGHBOUR: 'it returns false'. Refute it at one input. -/
def mutexDoesWrong : ChangeSpec := { name := "mutexDoes", fn := fun _ => fun
  | [d1, d2, d3] => { results := [.lit (.bool false)], args := [d1, d2, d3] }
  | _ => none }
def MutexDoesWrongFalsely : Prop := mutexDoesRow.holds Try.pinned (OpenSpec.ofChange mutexDoesWrong)

/-- 'deckhandlaw17.MutexStuck': WHATEVER THE INPUT: true; the input reads as it did. -/
def mutexStuckSpec : ChangeSpec := { name := "mutexStuck", fn := fun _ => fun
  | [d1, d2] => { results := [.lit (.bool true)], args := [d1, d2] }
  | _ => none }
def mutexStuckRow : OpenClaim := { program := "ytacmigimkdiagaa", sum := "db1306f7b4729aeb8a630c20c1f42a71ae8ede592a8eead238e9ab362df3e09d", func := "deckhand/deckhandlaw17.MutexStuck", spec := "mutexStuck", unfollowed := true, recurses := true, apart := false }
def MutexStuckSaid : Prop := mutexStuckRow.holds Try.pinned (OpenSpec.ofChange mutexStuckSpec)

/-- ITS FALSE NEIGHBOUR: 'it returns false'. Refute it at one input. -/
def mutexStuckWrong : ChangeSpec := { name := "mutexStuck", fn := fun _ => fun
  | [d1, d2] => { results := [.lit (.bool false)], args := [d1, d2] }
  | _ => none }
def MutexStuckWrongFalsely : Prop := mutexStuckRow.holds Try.pinned (OpenSpec.ofChange mutexStuckWrong)

/-- 'deckhandlaw17.MutexOrder': WHATEVER THE INPUT: true; the input reads as it did. -/
def mutexOrderSpec : ChangeSpec := { name := "mutexOrder", fn := fun _ => fun
  | [d1, d2] => { results := [.lit (.bool true)], args := [d1, d2] }
  | _ => none }
def mutexOrderRow : OpenClaim := { program := "ytacmigimkdiagaa", sum := "db1306f7b4729aeb8a630c20c1f42a71ae8ede592a8eead238e9ab362df3e09d", func := "deckhand/deckhandlaw17.MutexOrder", spec := "mutexOrder", unfollowed := true, recurses := true, apart := false }
def MutexOrderSaid : Prop := mutexOrderRow.holds Try.pinned (OpenSpec.ofChange mutexOrderSpec)

/-- ITS FALSE NEIGHBOUR: 'it returns false'. Refute it at one input. -/
def mutexOrderWrong : ChangeSpec := { name := "mutexOrder", fn := fun _ => fun
  | [d1, d2] => { results := [.lit (.bool false)], args := [d1, d2] }
  | _ => none }
def MutexOrderWrongFalsely : Prop := mutexOrderRow.holds Try.pinned (OpenSpec.ofChange mutexOrderWrong)

/-- 'deckhandlaw17.MutexRuns': WHATEVER THE INPUT: true; the input reads as it did. -/
def mutexRunsSpec : ChangeSpec := { name := "mutexRuns", fn := fun _ => fun
  | [d1, d2] => { results := [.lit (.bool true)], args := [d1, d2] }
  | _ => none }
def mutexRunsRow : OpenClaim := { program := "ytacmigimkdiagaa", sum := "db1306f7b4729aeb8a630c20c1f42a71ae8ede592a8eead238e9ab362df3e09d", func := "deckhand/deckhandlaw17.MutexRuns", spec := "mutexRuns", unfollowed := true, recurses := true, apart := false }
def MutexRunsSaid : Prop := mutexRunsRow.holds Try.pinned (OpenSpec.ofChange mutexRunsSpec)

/-- ITS FALSE NEIGHBOUR: 'it returns false'. Refute it at one input. -/
def mutexRunsWrong : ChangeSpec := { name := "mutexRuns", fn := fun _ => fun
  | [d1, d2] => { results := [.lit (.bool false)], args := [d1, d2] }
  | _ => none }
def MutexRunsWrongFalsely : Prop := mutexRunsRow.holds Try.pinned (OpenSpec.ofChange mutexRunsWrong)

/- THE SECOND FORM. 'bulk': how many values and letters a reading holds, each counted each time it is reached (what is shared counts as often as it is met; a slice's spare places count too). A statement '..UptoSaid' is the law's where the arguments, and the package variables that the reading takes, are together of bulk at most 1048576: NARROWER than '..Said'. Prove '..Said' where nothing that the law and all that it calls make is longer than what came in: it says more and counts as full. Else prove '..UptoSaid'. A law counts once. -/
mutual
def uptoBulk {H : Type} : DataW H → Nat
  | .lit (.string bytes) => bytes.length + 1
  | .lit _ => 1
  | .nil => 1
  | .ptr d => uptoBulk d + 1
  | .slice elems spare => uptoBulkAll elems + uptoBulkAll spare + 1
  | .agg parts => uptoBulkAll parts + 1
  | .iface _ d => uptoBulk d + 1
  | .map entries => uptoBulkEntries entries + 1
  | .held _ => 1
def uptoBulkAll {H : Type} : List (DataW H) → Nat
  | [] => 0
  | d :: r => uptoBulk d + uptoBulkAll r
def uptoBulkEntries {H : Type} : List (Lit × DataW H) → Nat
  | [] => 0
  | x :: r => uptoBulkEntry x + uptoBulkEntries r
def uptoBulkEntry {H : Type} : Lit × DataW H → Nat
  | (.string bytes, d) => bytes.length + uptoBulk d + 1
  | (_, d) => uptoBulk d + 1
 end
def uptoSmall : (H : Type) → List (DataW H) → Bool := fun _ ds => decide (uptoBulkAll ds ≤ 1048576)
def OpenSpec.upto (s : _root_.Go.ChangeSpec) : _root_.Go.OpenSpec := { _root_.Go.OpenSpec.ofChange s with cond := some uptoSmall }

/-- 'deckhandlaw18.PlanMakes', WHERE WHAT IT READS IS OF BULK AT MOST 1048576: true; the input reads as it did. -/
def planMakesUptoRow : OpenClaim := { program := "ytacmigimkdiagaa", sum := "db1306f7b4729aeb8a630c20c1f42a71ae8ede592a8eead238e9ab362df3e09d", func := "deckhand/deckhandlaw18.PlanMakes", spec := "planMakes", unfollowed := true, recurses := true, apart := false, narrowed := true }
def PlanMakesUptoSaid : Prop := planMakesUptoRow.holds Try.pinned (OpenSpec.upto planMakesSpec)

/-- 'deckhandlaw18.PlanTells', WHERE WHAT IT READS IS OF BULK AT MOST 1048576: true; the input reads as it did. -/
def planTellsUptoRow : OpenClaim := { program := "ytacmigimkdiagaa", sum := "db1306f7b4729aeb8a630c20c1f42a71ae8ede592a8eead238e9ab362df3e09d", func := "deckhand/deckhandlaw18.PlanTells", spec := "planTells", unfollowed := true, recurses := true, apart := false, narrowed := true }
def PlanTellsUptoSaid : Prop := planTellsUptoRow.holds Try.pinned (OpenSpec.upto planTellsSpec)

/-- 'deckhandlaw18.PlanTwo', WHERE WHAT IT READS IS OF BULK AT MOST 1048576: true; the input reads as it did. -/
def planTwoUptoRow : OpenClaim := { program := "ytacmigimkdiagaa", sum := "db1306f7b4729aeb8a630c20c1f42a71ae8ede592a8eead238e9ab362df3e09d", func := "deckhand/deckhandlaw18.PlanTwo", spec := "planTwo", unfollowed := true, recurses := true, apart := false, narrowed := true }
def PlanTwoUptoSaid : Prop := planTwoUptoRow.holds Try.pinned (OpenSpec.upto planTwoSpec)

/-- 'deckhandlaw18.PlanBack', WHERE WHAT IT READS IS OF BULK AT MOST 1048576: true; the input reads as it did. -/
def planBackUptoRow : OpenClaim := { program := "ytacmigimkdiagaa", sum := "db1306f7b4729aeb8a630c20c1f42a71ae8ede592a8eead238e9ab362df3e09d", func := "deckhand/deckhandlaw18.PlanBack", spec := "planBack", unfollowed := true, recurses := true, apart := false, narrowed := true }
def PlanBackUptoSaid : Prop := planBackUptoRow.holds Try.pinned (OpenSpec.upto planBackSpec)

/-- 'deckhandlaw17.MutexDoes', WHERE WHAT IT READS IS OF BULK AT MOST 1048576: true; the input reads as it did. -/
def mutexDoesUptoRow : OpenClaim := { program := "ytacmigimkdiagaa", sum := "db1306f7b4729aeb8a630c20c1f42a71ae8ede592a8eead238e9ab362df3e09d", func := "deckhand/deckhandlaw17.MutexDoes", spec := "mutexDoes", unfollowed := true, recurses := true, apart := false, narrowed := true }
def MutexDoesUptoSaid : Prop := mutexDoesUptoRow.holds Try.pinned (OpenSpec.upto mutexDoesSpec)

/-- 'deckhandlaw17.MutexStuck', WHERE WHAT IT READS IS OF BULK AT MOST 1048576: true; the input reads as it did. -/
def mutexStuckUptoRow : OpenClaim := { program := "ytacmigimkdiagaa", sum := "db1306f7b4729aeb8a630c20c1f42a71ae8ede592a8eead238e9ab362df3e09d", func := "deckhand/deckhandlaw17.MutexStuck", spec := "mutexStuck", unfollowed := true, recurses := true, apart := false, narrowed := true }
def MutexStuckUptoSaid : Prop := mutexStuckUptoRow.holds Try.pinned (OpenSpec.upto mutexStuckSpec)

/-- 'deckhandlaw17.MutexOrder', WHERE WHAT IT READS IS OF BULK AT MOST 1048576: true; the input reads as it did. -/
def mutexOrderUptoRow : OpenClaim := { program := "ytacmigimkdiagaa", sum := "db1306f7b4729aeb8a630c20c1f42a71ae8ede592a8eead238e9ab362df3e09d", func := "deckhand/deckhandlaw17.MutexOrder", spec := "mutexOrder", unfollowed := true, recurses := true, apart := false, narrowed := true }
def MutexOrderUptoSaid : Prop := mutexOrderUptoRow.holds Try.pinned (OpenSpec.upto mutexOrderSpec)

/-- 'deckhandlaw17.MutexRuns', WHERE WHAT IT READS IS OF BULK AT MOST 1048576: true; the input reads as it did. -/
def mutexRunsUptoRow : OpenClaim := { program := "ytacmigimkdiagaa", sum := "db1306f7b4729aeb8a630c20c1f42a71ae8ede592a8eead238e9ab362df3e09d", func := "deckhand/deckhandlaw17.MutexRuns", spec := "mutexRuns", unfollowed := true, recurses := true, apart := false, narrowed := true }
def MutexRunsUptoSaid : Prop := mutexRunsUptoRow.holds Try.pinned (OpenSpec.upto mutexRunsSpec)

end Rows
end Go.Proofs.Ytacmigimkdiagaa
