/- Small lemmas that the walks of this seat share: endings, cells below a contract's world, slices of whole numbers. -/
import Derived.Test.YtacmigimkdiagaaRows
import Derived.WalkKit
import Derived.WalkSpells
import Derived.WalkLawsBesides
import Derived.Lib.Hide
import Derived.IntWalk
import Derived.BigQuiet
import Derived.Deep.QuietTactic
import Derived.Deep.RegionWith
import Derived.Deep.RegionHeld3
import Derived.Deep.DeepCutAuto
import Derived.Deep.LoopGhost
import Derived.Deep.DeepFit
import Derived.Maps.OwnOps
namespace Go.Proofs.Ytacmigimkdiagaa
open Go.RowKit
set_option linter.unusedVariables false
set_option linter.unusedSimpArgs false

theorem ret_bool {a b : Bool} (h : a = b) : Ending.returned (.bool a) = .returned (.bool b) := by rw [h]
theorem ret_int {k : IntKind} {a b : Int} (h : a = b) : Ending.returned (.int k a) = .returned (.int k b) := by rw [h]

theorem bcell {W w1 : World} (hb : Below W.heap.size W w1) :
    (∀ b o, b < W.heap.size → w1.cell? ⟨b, o, none⟩ = W.cell? ⟨b, o, none⟩) ∧ (∀ b o, b < W.heap.size → w1.frozen? ⟨b, o, none⟩ = W.frozen? ⟨b, o, none⟩) :=
  ⟨fun b o h => hb.cell (p := ⟨b, o, none⟩) h, fun b o h => hb.frozen (p := ⟨b, o, none⟩) h⟩

/-- What is below an alloc's world is below the world. -/
theorem of_alloc {w w1 : World} {o : Obj} (hb : Below (w.alloc o).heap.size (w.alloc o) w1) : Below w.heap.size w w1 :=
  ((Below.refl _ _).alloc (Nat.le_refl _) o).trans (hb.mono (by simp))

/-- Onward from a world that is known below: a call; a call behind one, two, three new blocks. -/
theorem bstep {B : Nat} {w w1 w2 : World} (h : Below B w w1) (hB : B ≤ w.heap.size) (hb : Below w1.heap.size w1 w2) : Below B w w2 := h.trans (hb.mono (Nat.le_trans hB h.size))
theorem bstep1 {B : Nat} {w w1 w2 : World} {o : Obj} (h : Below B w w1) (hB : B ≤ w.heap.size) (hb : Below (w1.alloc o).heap.size (w1.alloc o) w2) : Below B w w2 := bstep h hB (of_alloc hb)
theorem bstep2 {B : Nat} {w w1 w2 : World} {o o' : Obj} (h : Below B w w1) (hB : B ≤ w.heap.size) (hb : Below ((w1.alloc o).alloc o').heap.size ((w1.alloc o).alloc o') w2) : Below B w w2 := bstep1 h hB (of_alloc hb)
theorem bstep3 {B : Nat} {w w1 w2 : World} {o o' o'' : Obj} (h : Below B w w1) (hB : B ≤ w.heap.size) (hb : Below (((w1.alloc o).alloc o').alloc o'').heap.size (((w1.alloc o).alloc o').alloc o'') w2) : Below B w w2 := bstep2 h hB (of_alloc hb)

theorem below_drew (w : World) : Below w.heap.size w w.drew := (Below.refl _ _).drew

/-- For a region that draws its order: what was there at W is as it was. (The second and third limbs are rules that the walk uses.) -/
abbrev Keeps (W w' : World) : Prop := Below W.heap.size W w' ∧ (∀ b o, b < W.heap.size → w'.cell? ⟨b, o, none⟩ = W.cell? ⟨b, o, none⟩) ∧ ∀ b o, b < W.heap.size → w'.frozen? ⟨b, o, none⟩ = W.frozen? ⟨b, o, none⟩
theorem Keeps.of {W w' : World} (h : Below W.heap.size W w') : Keeps W w' := ⟨h, (bcell h).1, (bcell h).2⟩
theorem Keeps.bel {W w' : World} (h : Keeps W w') : Below W.heap.size W w' := h.1
theorem Keeps.atDraw (W : World) : Keeps W W.drew := .of (below_drew W)
theorem Keeps.call {W w' w'' : World} (hb : Below w'.heap.size w' w'') (h : Keeps W w') : Keeps W w'' := .of (bstep h.1 (Nat.le_refl _) hb)
theorem Keeps.new {W w' : World} (h : Keeps W w') (o : Obj) : Keeps W (w'.alloc o) := .of (h.1.alloc h.1.size o)
theorem Keeps.store {W w' : World} (h : Keeps W w') {p : Addr} (hp : W.heap.size ≤ p.block) (v : Value) : Keeps W (w'.setCell p v) := .of (h.1.setCell hp v)

/-- The first place below n that is as wanted. -/
def firstIdx (f : Nat → Bool) (n : Nat) : Option Nat := (List.range n).find? f
/-- No place below k is as wanted. -/
def NoneYet (f : Nat → Bool) (k : Nat) : Prop := ∀ j, j < k → f j = false
theorem NoneYet.zero (f : Nat → Bool) : NoneYet f 0 := fun _ h => by omega
theorem NoneYet.succ {f : Nat → Bool} {k : Nat} (h : NoneYet f k) (hk : f k = false) : NoneYet f (k + 1) := fun j hj => by
  rcases Nat.lt_succ_iff_lt_or_eq.1 hj with h1 | rfl
  · exact h j h1
  · exact hk
theorem firstIdx_none {f : Nat → Bool} {n : Nat} (h : NoneYet f n) : firstIdx f n = none := by
  unfold firstIdx
  rw [List.find?_eq_none]
  intro x hx
  rw [h x (by simpa using hx)]
  simp
theorem firstIdx_some {f : Nat → Bool} {n k : Nat} (h : NoneYet f k) (hk : k < n) (hf : f k = true) : firstIdx f n = some k := by
  unfold firstIdx
  rw [List.find?_range_eq_some]
  refine ⟨hf, by simpa using hk, fun j hj => by rw [h j hj]; rfl⟩
theorem firstIdx_spec {f : Nat → Bool} {n k : Nat} (h : firstIdx f n = some k) : k < n ∧ f k = true ∧ NoneYet f k := by
  unfold firstIdx at h
  rw [List.find?_range_eq_some] at h
  exact ⟨by simpa using h.2.1, h.1, fun j hj => by simpa using h.2.2 j hj⟩
theorem firstIdx_none_spec {f : Nat → Bool} {n : Nat} (h : firstIdx f n = none) : NoneYet f n := by
  unfold firstIdx at h
  rw [List.find?_eq_none] at h
  intro j hj
  have := h j (by simpa using hj)
  simpa using this

/-- The number of a place that was looked for, and whether there is one. -/
def idxVal (o : Option Nat) : Value := .tuple #[.int .i64 (o.getD 0 : Nat), .bool o.isSome]

/-- A value is a slice of these tips. -/
def TipsAt (w : World) (v : Value) (l : List (Int × Int)) : Prop :=
  ∃ a cap, v = .slice a l.length cap ∧ l.length ≤ maxLen ∧ (l ≠ [] → ∃ b off, a = some ⟨b, off, none⟩ ∧ b < w.heap.size ∧
    ∀ i, i < l.length → w.cell? ⟨b, off + i * 2, none⟩ = some (.int .i64 (l.getD i (0, 0)).1) ∧ w.cell? ⟨b, off + i * 2 + 1, none⟩ = some (.int .i64 (l.getD i (0, 0)).2))

theorem TipsAt.below {w w' : World} {v : Value} {l : List (Int × Int)} (h : TipsAt w v l) (hb : Below w.heap.size w w') : TipsAt w' v l := by
  obtain ⟨a, cap, hv, hl, hc⟩ := h
  refine ⟨a, cap, hv, hl, fun hne => ?_⟩
  obtain ⟨b, off, ha, hs, hi⟩ := hc hne
  refine ⟨b, off, ha, Nat.lt_of_lt_of_le hs hb.size, fun i hil => ?_⟩
  rw [hb.cell (p := ⟨b, _, none⟩) hs, hb.cell (p := ⟨b, _, none⟩) hs]
  exact hi i hil

/-- A value is a slice of these takes and drops. -/
def DeedsAt (w : World) (v : Value) (l : List (Bool × Int)) : Prop :=
  ∃ a cap, v = .slice a l.length cap ∧ l.length ≤ maxLen ∧ (l ≠ [] → ∃ b off, a = some ⟨b, off, none⟩ ∧ b < w.heap.size ∧
    ∀ i, i < l.length → w.cell? ⟨b, off + i * 2, none⟩ = some (.bool (l.getD i (false, 0)).1) ∧ w.cell? ⟨b, off + i * 2 + 1, none⟩ = some (.int .i64 (l.getD i (false, 0)).2))

end Go.Proofs.Ytacmigimkdiagaa
