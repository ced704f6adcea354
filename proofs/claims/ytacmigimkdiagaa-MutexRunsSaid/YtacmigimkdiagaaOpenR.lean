/- The row's arguments opened: what a slice of structs reads as. -/
import Derived.Test.YtacmigimkdiagaaStrips
import Derived.ProofKit
import Derived.OpenShut
import Derived.ShutString
import Derived.ChangeOld
import Derived.Lib.SmallJoins
import Derived.Deep.SlicePairs
namespace Go.Proofs.Ytacmigimkdiagaa
open Go.ChangeShapes Go.WideShapes Go.ChangeAt Go.RowKit Go.Joins Go.Deep
set_option linter.unusedVariables false
set_option linter.unusedSimpArgs false

/-- A slice that reads, opened: its rows. -/
theorem open_rows {H : Type} {enc : TypeId × Value → H} {w : World} {t e : TypeId} {α : Type} {sz : Nat} {f : α → List Value} {ok : α → Prop} (ht : Try.prog.underlying t = some (.slice e)) (hc : Try.prog.cellsOf e = sz)
    (hsz : 0 < sz) (hlen : ∀ x, (f x).length = sz)
    (dec : ∀ (n : Nat) (cs : List Value) (x : DataW H × List MemPlace), cs.length = sz → DataW.trod enc Try.prog w 0 (fun _ => true) true n e cs = some x → ∃ z, ok z ∧ cs = f z)
    {a : Option Addr} {len cap : Nat} {d : DataW H} {p : List MemPlace} (h : DataW.Trod enc Try.prog w 0 (fun _ => true) true t (.slice a len cap) d p) :
    ∃ l, RowsAt sz f w (.slice a len cap) l ∧ ∀ x ∈ l, ok x := by
  obtain ⟨fuel, hf⟩ := h
  rcases open_slice ht hf with ⟨hcs, _⟩ | ⟨ad, len', cap', m, n, D, Pl, hcs, _, hl, hm, hmm, _, hi⟩
  · simp [Value.cells] at hcs
    obtain ⟨rfl, rfl, rfl⟩ := hcs
    exact ⟨[], RowsAt.nil sz f w, fun x hx => by cases hx⟩
  · simp [Value.cells] at hcs
    obtain ⟨rfl, rfl, rfl⟩ := hcs
    have hml : m = cap := by simpa using hmm
    subst hml
    have each : ∀ i, i < len → ∃ z : Option α, ∃ y, z = some y ∧ ok y ∧ w.cells? 0 (ad.add (i * sz)) sz = some (f y) := by
      intro i hil
      obtain ⟨cs', h1, h2⟩ := hi i (by omega)
      rw [hc] at h1
      obtain ⟨_, hlen', _⟩ := World.cells?_some h1
      obtain ⟨z, hz, rfl⟩ := dec n cs' _ hlen' h2
      exact ⟨some z, z, rfl, hz, h1⟩
    obtain ⟨z, hz⟩ := choose_lt each
    have hz' : ∀ i, i < len → ∃ y, z i = some y ∧ ok y ∧ w.cells? 0 (ad.add (i * sz)) sz = some (f y) := fun i hi => hz i hi
    have hall : ∀ k, k ≤ len → ∃ l : List α, l.length = k ∧ ∀ i, i < k → z i = l[i]? := by
      intro k
      induction k with
      | zero => exact fun _ => ⟨[], rfl, fun i hi => by omega⟩
      | succ k ih =>
        intro hk
        obtain ⟨l, h1, h2⟩ := ih (by omega)
        obtain ⟨y, hy, _⟩ := hz' k (by omega)
        refine ⟨l ++ [y], by simp [h1], fun i hi => ?_⟩
        by_cases hik : i = k
        · subst hik
          rw [hy, List.getElem?_append_right (by omega), h1]
          simp
        · rw [List.getElem?_append_left (by omega)]
          exact h2 i (by omega)
    obtain ⟨l, hll, hlz⟩ := hall len (Nat.le_refl _)
    have hx : ∀ i x, l[i]? = some x → ok x ∧ w.cells? 0 (ad.add (i * sz)) sz = some (f x) := by
      intro i x hix
      have hil : i < len := by rw [← hll]; exact (List.getElem?_eq_some_iff.1 hix).1
      obtain ⟨y, h1, h2, h3⟩ := hz' i hil
      rw [hlz i hil, hix] at h1
      cases h1
      exact ⟨h2, h3⟩
    refine ⟨l, ⟨some ad, m, by rw [hll], by rw [hll]; exact hl, hm, fun h => by simp at h, fun hne => ?_⟩, fun x hxl => ?_⟩
    · obtain ⟨b, off, spot⟩ := ad
      have hpos : 0 < l.length := List.length_pos_iff.2 hne
      have h0 := (hx 0 l[0] (List.getElem?_eq_getElem hpos)).2
      have key : ∀ i x, l[i]? = some x → ∀ j u, (f x)[j]? = some u → w.cell? ((⟨b, off, spot⟩ : Addr).add (i * sz + j)) = some u := by
        intro i x hix j u hju
        obtain ⟨_, _, hcell⟩ := World.cells?_some (hx i x hix).2
        have hj : j < sz := by rw [← hlen x]; exact (List.getElem?_eq_some_iff.1 hju).1
        have := hcell j hj
        rw [add_add] at this
        rw [this]
        exact hju
      have hne0 : ∃ u, (f l[0])[0]? = some u := ⟨(f l[0])[0]'(by rw [hlen]; exact hsz), List.getElem?_eq_getElem _⟩
      obtain ⟨u0, hu0⟩ := hne0
      have hc0 := key 0 l[0] (List.getElem?_eq_getElem hpos) 0 u0 hu0
      have hspot : spot = none := by simpa [Addr.add] using World.cell?_spot hc0
      subst hspot
      refine ⟨b, off, rfl, by simpa [Addr.add] using World.block_lt_of_cell? _ _ hc0, fun i x hix j u hju => ?_⟩
      have := key i x hix j u hju
      rw [add_plain] at this
      rw [← this]
      congr 2
      omega
    · obtain ⟨i, hi'⟩ := List.mem_iff_getElem?.1 hxl
      exact (hx i x hi').1

theorem own : ownKnob Try.prog.godebug = none := by kernel_rfl
theorem laidOut : laidOutB Try.prog = true := by kernel_rfl

end Go.Proofs.Ytacmigimkdiagaa
