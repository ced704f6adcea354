/-
  No cell of these rows narrows 'for every input' (looked for: loops, veiled, ifaces, maps, wideKeys, modest, calm, conditions, laid).
  DERIVED. THE GIVEN ROWS OF THIS SEAT. 10 by the template 'for every input the law returns true; each argument reads behind the call as it read before'; 0 by the template 'total and deterministic' (their statements: YtdpinfigjeafpaaTotals.lean).
  GIVEN WITH THE SEED: the statements are not yours to turn. If you find one false, say at which input.
  Laid BY PROGRAM, IN A SANDBOX (cutbox-rows.mjs): the forced cells as the released guide's own fill.sh prints them over the translation a54e6384af1ed4f0… (all of the seat's roots in one cut). By AI agents, Wed Nov 11 2026. No macro, syntax, notation, axiom, sorry.
-/
import Derived.Test.YtdpinfigjeafpaaChecked
import GoSem.Claim
import GoSem.ClaimJoined
import GoSem.ClaimMapViews
import Derived.JoinedTies
import Derived.KernelRfl
namespace Go.Proofs.Ytdpinfigjeafpaa
/- THE CELL 'sum', in the pinned program and in every row, IS THE sha256 OF THE DUMP (.gsa) THAT YtdpinfigjeafpaaProg.lean LOADS. Nothing in Lean hashes anything: it is a label: what it is worth is what the hold of that sum in a sandbox is worth. -/
noncomputable def Try.pinned : Pinned := { name := "ytdpinfigjeafpaa", sum := "a54e6384af1ed4f00b7b3bff7b800a2133b747d298d836807539026d0f4c51e9", checked := Try.checked }
namespace Rows
def none {H : Type} : Left H := { results := [], args := [] }

/-- 'deckhandlaw12.TipDoes': WHATEVER THE INPUT: true; the input reads as it did. -/
def tipDoesSpec : ChangeSpec := { name := "tipDoes", fn := fun _ => fun
  | [d1, d2] => { results := [.lit (.bool true)], args := [d1, d2] }
  | _ => none }
def tipDoesRow : OpenClaim := { program := "ytdpinfigjeafpaa", sum := "a54e6384af1ed4f00b7b3bff7b800a2133b747d298d836807539026d0f4c51e9", func := "deckhand/deckhandlaw12.TipDoes", spec := "tipDoes", apart := false }
def TipDoesSaid : Prop := tipDoesRow.holds Try.pinned (OpenSpec.ofChange tipDoesSpec)

/-- ITS FALSE NEIGHBOUR: 'it returns false'. Refute it at one input. -/
def tipDoesWrong : ChangeSpec := { name := "tipDoes", fn := fun _ => fun
  | [d1, d2] => { results := [.lit (.bool false)], args := [d1, d2] }
  | _ => none }
def TipDoesWrongFalsely : Prop := tipDoesRow.holds Try.pinned (OpenSpec.ofChange tipDoesWrong)

/-- 'deckhandlaw12.TipLooks': WHATEVER THE INPUT: true; the input reads as it did. -/
def tipLooksSpec : ChangeSpec := { name := "tipLooks", fn := fun _ => fun
  | [d1, d2, d3] => { results := [.lit (.bool true)], args := [d1, d2, d3] }
  | _ => none }
def tipLooksRow : OpenClaim := { program := "ytdpinfigjeafpaa", sum := "a54e6384af1ed4f00b7b3bff7b800a2133b747d298d836807539026d0f4c51e9", func := "deckhand/deckhandlaw12.TipLooks", spec := "tipLooks", apart := false }
def TipLooksSaid : Prop := tipLooksRow.holds Try.pinned (OpenSpec.ofChange tipLooksSpec)

/-- ITS FALSE NEIGHBOUR: 'it returns false'. Refute it at one input. -/
def tipLooksWrong : ChangeSpec := { name := "tipLooks", fn := fun _ => fun
  | [d1, d2, d3] => { results := [.lit (.bool false)], args := [d1, d2, d3] }
  | _ => none }
def TipLooksWrongFalsely : Prop := tipLooksRow.holds Try.pinned (OpenSpec.ofChange tipLooksWrong)

/-- 'deckhandlaw12.TipOnce': WHATEVER THE INPUT: true; the input reads as it did. -/
def tipOnceSpec : ChangeSpec := { name := "tipOnce", fn := fun _ => fun
  | [d] => { results := [.lit (.bool true)], args := [d] }
  | _ => none }
def tipOnceRow : OpenClaim := { program := "ytdpinfigjeafpaa", sum := "a54e6384af1ed4f00b7b3bff7b800a2133b747d298d836807539026d0f4c51e9", func := "deckhand/deckhandlaw12.TipOnce", spec := "tipOnce", apart := false }
def TipOnceSaid : Prop := tipOnceRow.holds Try.pinned (OpenSpec.ofChange tipOnceSpec)

/-- ITS FALSE NEIGHBOUR: 'it returns false'. Refute it at one input. -/
def tipOnceWrong : ChangeSpec := { name := "tipOnce", fn := fun _ => fun
  | [d] => { results := [.lit (.bool false)], args := [d] }
  | _ => none }
def TipOnceWrongFalsely : Prop := tipOnceRow.holds Try.pinned (OpenSpec.ofChange tipOnceWrong)

/-- 'deckhandlaw14.OwnerTakes': WHATEVER THE INPUT: true; the input reads as it did. -/
def ownerTakesSpec : ChangeSpec := { name := "ownerTakes", fn := fun _ => fun
  | [d1, d2, d3] => { results := [.lit (.bool true)], args := [d1, d2, d3] }
  | _ => none }
def ownerTakesRow : OpenClaim := { program := "ytdpinfigjeafpaa", sum := "a54e6384af1ed4f00b7b3bff7b800a2133b747d298d836807539026d0f4c51e9", func := "deckhand/deckhandlaw14.OwnerTakes", spec := "ownerTakes", unfollowed := true, recurses := true, apart := false }
def OwnerTakesSaid : Prop := ownerTakesRow.holds Try.pinned (OpenSpec.ofChange ownerTakesSpec)

/-- ITS FALSE NEIGHBOUR: 'it returns false'. Refute it at one input. -/
def ownerTakesWrong : ChangeSpec := { name := "ownerTakes", fn := fun _ => fun
  | [d1, d2, d3] => { results := [.lit (.bool false)], args := [d1, d2, d3] }
  | _ => none }
def OwnerTakesWrongFalsely : Prop := ownerTakesRow.holds Try.pinned (OpenSpec.ofChange ownerTakesWrong)

/-- 'deckhandlaw14.OwnerGives': WHATEVER THE INPUT: true; the input reads as it did. -/
def ownerGivesSpec : ChangeSpec := { name := "ownerGives", fn := fun _ => fun
  | [d1, d2, d3] => { results := [.lit (.bool true)], args := [d1, d2, d3] }
  | _ => none }
def ownerGivesRow : OpenClaim := { program := "ytdpinfigjeafpaa", sum := "a54e6384af1ed4f00b7b3bff7b800a2133b747d298d836807539026d0f4c51e9", func := "deckhand/deckhandlaw14.OwnerGives", spec := "ownerGives", unfollowed := true, recurses := true, apart := false }
def OwnerGivesSaid : Prop := ownerGivesRow.holds Try.pinned (OpenSpec.ofChange ownerGivesSpec)

/-- ITS FALSE NEIGHBOUR: 'it returns false'. Refute it at one input. -/
def ownerGivesWrong : ChangeSpec := { name := "ownerGives", fn := fun _ => fun
  | [d1, d2, d3] => { results := [.lit (.bool false)], args := [d1, d2, d3] }
  | _ => none }
def OwnerGivesWrongFalsely : Prop := ownerGivesRow.holds Try.pinned (OpenSpec.ofChange ownerGivesWrong)

/-- 'deckhandlaw14.OwnerBack': WHATEVER THE INPUT: true; the input reads as it did. -/
def ownerBackSpec : ChangeSpec := { name := "ownerBack", fn := fun _ => fun
  | [d1, d2, d3, d4] => { results := [.lit (.bool true)], args := [d1, d2, d3, d4] }
  | _ => none }
def ownerBackRow : OpenClaim := { program := "ytdpinfigjeafpaa", sum := "a54e6384af1ed4f00b7b3bff7b800a2133b747d298d836807539026d0f4c51e9", func := "deckhand/deckhandlaw14.OwnerBack", spec := "ownerBack", unfollowed := true, recurses := true, apart := false }
def OwnerBackSaid : Prop := ownerBackRow.holds Try.pinned (OpenSpec.ofChange ownerBackSpec)

/-- ITS FALSE NEIGHBOUR: 'it returns false'. Refute it at one input. -/
def ownerBackWrong : ChangeSpec := { name := "ownerBack", fn := fun _ => fun
  | [d1, d2, d3, d4] => { results := [.lit (.bool false)], args := [d1, d2, d3, d4] }
  | _ => none }
def OwnerBackWrongFalsely : Prop := ownerBackRow.holds Try.pinned (OpenSpec.ofChange ownerBackWrong)

/-- 'deckhandlaw14.OwnerApart': WHATEVER THE INPUT: true; the input reads as it did. -/
def ownerApartSpec : ChangeSpec := { name := "ownerApart", fn := fun _ => fun
  | [d1, d2, d3, d4, d5] => { results := [.lit (.bool true)], args := [d1, d2, d3, d4, d5] }
  | _ => none }
def ownerApartRow : OpenClaim := { program := "ytdpinfigjeafpaa", sum := "a54e6384af1ed4f00b7b3bff7b800a2133b747d298d836807539026d0f4c51e9", func := "deckhand/deckhandlaw14.OwnerApart", spec := "ownerApart", unfollowed := true, recurses := true, apart := false }
def OwnerApartSaid : Prop := ownerApartRow.holds Try.pinned (OpenSpec.ofChange ownerApartSpec)

/-- ITS FALSE NEIGHBOUR: 'it returns false'. Refute it at one input. -/
def ownerApartWrong : ChangeSpec := { name := "ownerApart", fn := fun _ => fun
  | [d1, d2, d3, d4, d5] => { results := [.lit (.bool false)], args := [d1, d2, d3, d4, d5] }
  | _ => none }
def OwnerApartWrongFalsely : Prop := ownerApartRow.holds Try.pinned (OpenSpec.ofChange ownerApartWrong)

/-- 'deckhandlaw04.SetsFrom': WHATEVER THE INPUT: true; the input reads as it did. -/
def setsFromSpec : ChangeSpec := { name := "setsFrom", fn := fun _ => fun
  | [d1, d2] => { results := [.lit (.bool true)], args := [d1, d2] }
  | _ => none }
def setsFromRow : OpenClaim := { program := "ytdpinfigjeafpaa", sum := "a54e6384af1ed4f00b7b3bff7b800a2133b747d298d836807539026d0f4c51e9", func := "deckhand/deckhandlaw04.SetsFrom", spec := "setsFrom", unfollowed := true, recurses := true, apart := false }
def SetsFromSaid : Prop := setsFromRow.holds Try.pinned (OpenSpec.ofChange setsFromSpec)

/-- ITS FALSE NEIGHBOUR: 'it returns false'. Refute it at one input. -/
def setsFromWrong : ChangeSpec := { name := "setsFrom", fn := fun _ => fun
  | [d1, d2] => { results := [.lit (.bool false)], args := [d1, d2] }
  | _ => none }
def SetsFromWrongFalsely : Prop := setsFromRow.holds Try.pinned (OpenSpec.ofChange setsFromWrong)

/-- 'deckhandlaw04.SetsTwo': WHATEVER THE INPUT: true; the input reads as it did. -/
def setsTwoSpec : ChangeSpec := { name := "setsTwo", fn := fun _ => fun
  | [d1, d2] => { results := [.lit (.bool true)], args := [d1, d2] }
  | _ => none }
def setsTwoRow : OpenClaim := { program := "ytdpinfigjeafpaa", sum := "a54e6384af1ed4f00b7b3bff7b800a2133b747d298d836807539026d0f4c51e9", func := "deckhand/deckhandlaw04.SetsTwo", spec := "setsTwo", unfollowed := true, recurses := true, apart := false }
def SetsTwoSaid : Prop := setsTwoRow.holds Try.pinned (OpenSpec.ofChange setsTwoSpec)

/-- ITS FALSE NEIGHBOUR: 'it returns false'. Refute it at one input. -/
def setsTwoWrong : ChangeSpec := { name := "setsTwo", fn := fun _ => fun
  | [d1, d2] => { results := [.lit (.bool false)], args := [d1, d2] }
  | _ => none }
def SetsTwoWrongFalsely : Prop := setsTwoRow.holds Try.pinned (OpenSpec.ofChange setsTwoWrong)

/-- 'deckhandlaw04.SetsCount': WHATEVER THE INPUT: true; the input reads as it did. -/
def setsCountSpec : ChangeSpec := { name := "setsCount", fn := fun _ => fun
  | [d1, d2] => { results := [.lit (.bool true)], args := [d1, d2] }
  | _ => none }
def setsCountRow : OpenClaim := { program := "ytdpinfigjeafpaa", sum := "a54e6384af1ed4f00b7b3bff7b800a2133b747d298d836807539026d0f4c51e9", func := "deckhand/deckhandlaw04.SetsCount", spec := "setsCount", unfollowed := true, recurses := true, apart := false }
def SetsCountSaid : Prop := setsCountRow.holds Try.pinned (OpenSpec.ofChange setsCountSpec)

/-- ITS FALSE NEIGHBOUR: 'it returns false'. Refute it at one input. -/
def setsCountWrong : ChangeSpec := { name := "setsCount", fn := fun _ => fun
  | [d1, d2] => { results := [.lit (.bool false)], args := [d1, d2] }
  | _ => none }
def SetsCountWrongFalsely : Prop := setsCountRow.holds Try.pinned (OpenSpec.ofChange setsCountWrong)

/- THE SECOND FORM. 'bulk': how many values and letters a reading holds, each counted each time it is reached (what is shared counts as often as it is met; a slice's spare places count too). A statement '..UptoSaid' is the law's where the arguments, and the package variables that the reading takes, are together of bulk at most 1048576: NARROWER than '..Said'. Prove '..Said' where nothing that the law and all that it calls make is longer than what came in: it says more and counts as full. Else prove '..UptoSaid'. A law counts once. -/
mutual
def uptoBulk {H : Type} : DataW H → Nat
  | .lit (.string bytes) => bytes.length + 1
  | .lit _ => 1
  | .nil => 1
  | .ptr d => uptoBulk d + 1
  | .slice elems spare => uptoBulkAll elems + uptoBulkAll spare + 1
  | .agg parts => uptoBulkAll parts + 1
  | .iface _ d => uptoBulk d + 1
  | .map entries => uptoBulkEntries entries + 1
  | .held _ => 1
def uptoBulkAll {H : Type} : List (DataW H) → Nat
  | [] => 0
  | d :: r => uptoBulk d + uptoBulkAll r
def uptoBulkEntries {H : Type} : List (Lit × DataW H) → Nat
  | [] => 0
  | x :: r => uptoBulkEntry x + uptoBulkEntries r
def uptoBulkEntry {H : Type} : Lit × DataW H → Nat
  | (.string bytes, d) => bytes.length + uptoBulk d + 1
  | (_, d) => uptoBulk d + 1
 end
def uptoSmall : (H : Type) → List (DataW H) → Bool := fun _ ds => decide (uptoBulkAll ds ≤ 1048576)
def OpenSpec.upto (s : _root_.Go.ChangeSpec) : _root_.Go.OpenSpec := { _root_.Go.OpenSpec.ofChange s with cond := some uptoSmall }

/-- 'deckhandlaw12.TipDoes', WHERE WHAT IT READS IS OF BULK AT MOST 1048576: true; the input reads as it did. -/
def tipDoesUptoRow : OpenClaim := { program := "ytdpinfigjeafpaa", sum := "a54e6384af1ed4f00b7b3bff7b800a2133b747d298d836807539026d0f4c51e9", func := "deckhand/deckhandlaw12.TipDoes", spec := "tipDoes", apart := false, narrowed := true }
def TipDoesUptoSaid : Prop := tipDoesUptoRow.holds Try.pinned (OpenSpec.upto tipDoesSpec)

/-- 'deckhandlaw12.TipLooks', WHERE WHAT IT READS IS OF BULK AT MOST 1048576: true; the input reads as it did. -/
def tipLooksUptoRow : OpenClaim := { program := "ytdpinfigjeafpaa", sum := "a54e6384af1ed4f00b7b3bff7b800a2133b747d298d836807539026d0f4c51e9", func := "deckhand/deckhandlaw12.TipLooks", spec := "tipLooks", apart := false, narrowed := true }
def TipLooksUptoSaid : Prop := tipLooksUptoRow.holds Try.pinned (OpenSpec.upto tipLooksSpec)

/-- 'deckhandlaw12.TipOnce', WHERE WHAT IT READS IS OF BULK AT MOST 1048576: true; the input reads as it did. -/
def tipOnceUptoRow : OpenClaim := { program := "ytdpinfigjeafpaa", sum := "a54e6384af1ed4f00b7b3bff7b800a2133b747d298d836807539026d0f4c51e9", func := "deckhand/deckhandlaw12.TipOnce", spec := "tipOnce", apart := false, narrowed := true }
def TipOnceUptoSaid : Prop := tipOnceUptoRow.holds Try.pinned (OpenSpec.upto tipOnceSpec)

/-- 'deckhandlaw14.OwnerTakes', WHERE WHAT IT READS IS OF BULK AT MOST 1048576: true; the input reads as it did. -/
def ownerTakesUptoRow : OpenClaim := { program := "ytdpinfigjeafpaa", sum := "a54e6384af1ed4f00b7b3bff7b800a2133b747d298d836807539026d0f4c51e9", func := "deckhand/deckhandlaw14.OwnerTakes", spec := "ownerTakes", unfollowed := true, recurses := true, apart := false, narrowed := true }
def OwnerTakesUptoSaid : Prop := ownerTakesUptoRow.holds Try.pinned (OpenSpec.upto ownerTakesSpec)

/-- 'deckhandlaw14.OwnerGives', WHERE WHAT IT READS IS OF BULK AT MOST 1048576: true; the input reads as it did. -/
def ownerGivesUptoRow : OpenClaim := { program := "ytdpinfigjeafpaa", sum := "a54e6384af1ed4f00b7b3bff7b800a2133b747d298d836807539026d0f4c51e9", func := "deckhand/deckhandlaw14.OwnerGives", spec := "ownerGives", unfollowed := true, recurses := true, apart := false, narrowed := true }
def OwnerGivesUptoSaid : Prop := ownerGivesUptoRow.holds Try.pinned (OpenSpec.upto ownerGivesSpec)

/-- 'deckhandlaw14.OwnerBack', WHERE WHAT IT READS IS OF BULK AT MOST 1048576: true; the input reads as it did. -/
def ownerBackUptoRow : OpenClaim := { program := "ytdpinfigjeafpaa", sum := "a54e6384af1ed4f00b7b3bff7b800a2133b747d298d836807539026d0f4c51e9", func := "deckhand/deckhandlaw14.OwnerBack", spec := "ownerBack", unfollowed := true, recurses := true, apart := false, narrowed := true }
def OwnerBackUptoSaid : Prop := ownerBackUptoRow.holds Try.pinned (OpenSpec.upto ownerBackSpec)

/-- 'deckhandlaw14.OwnerApart', WHERE WHAT IT READS IS OF BULK AT MOST 1048576: true; the input reads as it did. -/
def ownerApartUptoRow : OpenClaim := { program := "ytdpinfigjeafpaa", sum := "a54e6384af1ed4f00b7b3bff7b800a2133b747d298d836807539026d0f4c51e9", func := "deckhand/deckhandlaw14.OwnerApart", spec := "ownerApart", unfollowed := true, recurses := true, apart := false, narrowed := true }
def OwnerApartUptoSaid : Prop := ownerApartUptoRow.holds Try.pinned (OpenSpec.upto ownerApartSpec)

/-- 'deckhandlaw04.SetsFrom', WHERE WHAT IT READS IS OF BULK AT MOST 1048576: true; the input reads as it did. -/
def setsFromUptoRow : OpenClaim := { program := "ytdpinfigjeafpaa", sum := "a54e6384af1ed4f00b7b3bff7b800a2133b747d298d836807539026d0f4c51e9", func := "deckhand/deckhandlaw04.SetsFrom", spec := "setsFrom", unfollowed := true, recurses := true, apart := false, narrowed := true }
def SetsFromUptoSaid : Prop := setsFromUptoRow.holds Try.pinned (OpenSpec.upto setsFromSpec)

/-- 'deckhandlaw04.SetsTwo', WHERE WHAT IT READS IS OF BULK AT MOST 1048576: true; the input reads as it did. -/
def setsTwoUptoRow : OpenClaim := { program := "ytdpinfigjeafpaa", sum := "a54e6384af1ed4f00b7b3bff7b800a2133b747d298d836807539026d0f4c51e9", func := "deckhand/deckhandlaw04.SetsTwo", spec := "setsTwo", unfollowed := true, recurses := true, apart := false, narrowed := true }
def SetsTwoUptoSaid : Prop := setsTwoUptoRow.holds Try.pinned (OpenSpec.upto setsTwoSpec)

/-- 'deckhandlaw04.SetsCount', WHERE WHAT IT READS IS OF BULK AT MOST 1048576: true; the input reads as it did. -/
def setsCountUptoRow : OpenClaim := { program := "ytdpinfigjeafpaa", sum := "a54e6384af1ed4f00b7b3bff7b800a2133b747d298d836807539026d0f4c51e9", func := "deckhand/deckhandlaw04.SetsCount", spec := "setsCount", unfollowed := true, recurses := true, apart := false, narrowed := true }
def SetsCountUptoSaid : Prop := setsCountUptoRow.holds Try.pinned (OpenSpec.upto setsCountSpec)

end Rows
end Go.Proofs.Ytdpinfigjeafpaa
