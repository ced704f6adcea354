/- Small lemmas that the walks of this seat share: endings, cells below a contract's world, slices of whole numbers. -/
import Derived.Test.YtdpinfigjeafpaaRows
import Derived.WalkKit
import Derived.WalkSpells
import Derived.WalkLawsBesides
import Derived.Lib.Hide
import Derived.IntWalk
import Derived.BigQuiet
import Derived.Deep.QuietTactic
import Derived.Deep.RegionWith
import Derived.Deep.RegionHeld3
import Derived.Deep.DeepCutAuto
import Derived.Deep.LoopGhost
import Derived.Deep.DeepFit
import Derived.Maps.OwnOps
namespace Go.Proofs.Ytdpinfigjeafpaa
open Go.RowKit
set_option linter.unusedVariables false
set_option linter.unusedSimpArgs false

theorem ret_bool {a b : Bool} (h : a = b) : Ending.returned (.bool a) = .returned (.bool b) := by rw [h]
theorem ret_int {k : IntKind} {a b : Int} (h : a = b) : Ending.returned (.int k a) = .returned (.int k b) := by rw [h]

theorem bcell {W w1 : World} (hb : Below W.heap.size W w1) :
    (∀ b o, b < W.heap.size → w1.cell? ⟨b, o, none⟩ = W.cell? ⟨b, o, none⟩) ∧ (∀ b o, b < W.heap.size → w1.frozen? ⟨b, o, none⟩ = W.frozen? ⟨b, o, none⟩) :=
  ⟨fun b o h => hb.cell (p := ⟨b, o, none⟩) h, fun b o h => hb.frozen (p := ⟨b, o, none⟩) h⟩

/-- What is below an alloc's world is below the world. -/
theorem of_alloc {w w1 : World} {o : Obj} (hb : Below (w.alloc o).heap.size (w.alloc o) w1) : Below w.heap.size w w1 :=
  ((Below.refl _ _).alloc (Nat.le_refl _) o).trans (hb.mono (by simp))

/-- Onward from a world that is known below: a call; a call behind one, two, three new blocks. -/
theorem bstep {B : Nat} {w w1 w2 : World} (h : Below B w w1) (hB : B ≤ w.heap.size) (hb : Below w1.heap.size w1 w2) : Below B w w2 := h.trans (hb.mono (Nat.le_trans hB h.size))
theorem bstep1 {B : Nat} {w w1 w2 : World} {o : Obj} (h : Below B w w1) (hB : B ≤ w.heap.size) (hb : Below (w1.alloc o).heap.size (w1.alloc o) w2) : Below B w w2 := bstep h hB (of_alloc hb)
theorem bstep2 {B : Nat} {w w1 w2 : World} {o o' : Obj} (h : Below B w w1) (hB : B ≤ w.heap.size) (hb : Below ((w1.alloc o).alloc o').heap.size ((w1.alloc o).alloc o') w2) : Below B w w2 := bstep1 h hB (of_alloc hb)
theorem bstep3 {B : Nat} {w w1 w2 : World} {o o' o'' : Obj} (h : Below B w w1) (hB : B ≤ w.heap.size) (hb : Below (((w1.alloc o).alloc o').alloc o'').heap.size (((w1.alloc o).alloc o').alloc o'') w2) : Below B w w2 := bstep2 h hB (of_alloc hb)

theorem below_drew (w : World) : Below w.heap.size w w.drew := (Below.refl _ _).drew

/-- The first place below n that is as wanted. -/
def firstIdx (f : Nat → Bool) (n : Nat) : Option Nat := (List.range n).find? f
/-- No place below k is as wanted. -/
def NoneYet (f : Nat → Bool) (k : Nat) : Prop := ∀ j, j < k → f j = false
theorem NoneYet.zero (f : Nat → Bool) : NoneYet f 0 := fun _ h => by omega
theorem NoneYet.succ {f : Nat → Bool} {k : Nat} (h : NoneYet f k) (hk : f k = false) : NoneYet f (k + 1) := fun j hj => by
  rcases Nat.lt_succ_iff_lt_or_eq.1 hj with h1 | rfl
  · exact h j h1
  · exact hk
theorem firstIdx_none {f : Nat → Bool} {n : Nat} (h : NoneYet f n) : firstIdx f n = none := by
  unfold firstIdx
  rw [List.find?_eq_none]
  intro x hx
  rw [h x (by simpa using hx)]
  simp
theorem firstIdx_some {f : Nat → Bool} {n k : Nat} (h : NoneYet f k) (hk : k < n) (hf : f k = true) : firstIdx f n = some k := by
  unfold firstIdx
  rw [List.find?_range_eq_some]
  refine ⟨hf, by simpa using hk, fun j hj => by rw [h j hj]; rfl⟩
theorem firstIdx_spec {f : Nat → Bool} {n k : Nat} (h : firstIdx f n = some k) : k < n ∧ f k = true ∧ NoneYet f k := by
  unfold firstIdx at h
  rw [List.find?_range_eq_some] at h
  exact ⟨by simpa using h.2.1, h.1, fun j hj => by simpa using h.2.2 j hj⟩
theorem firstIdx_none_spec {f : Nat → Bool} {n : Nat} (h : firstIdx f n = none) : NoneYet f n := by
  unfold firstIdx at h
  rw [List.find?_eq_none] at h
  intro j hj
  have := h j (by simpa using hj)
  simpa using this

/-- The number of a place that was looked for, and whether there is one. -/
def idxVal (o : Option Nat) : Value := .tuple #[.int .i64 (o.getD 0 : Nat), .bool o.isSome]

end Go.Proofs.Ytdpinfigjeafpaa
