/- The row's arguments opened: what a slice of tips, of numbers reads as. -/
import Derived.Test.YtdpinfigjeafpaaInts
import Derived.ProofKit
import Derived.OpenShut
import Derived.ShutString
import Derived.ChangeOld
import Derived.Lib.SmallJoins
import Derived.Deep.SlicePairs
namespace Go.Proofs.Ytdpinfigjeafpaa
open Go.ChangeShapes Go.WideShapes Go.ChangeAt Go.RowKit Go.Joins Go.Deep
set_option linter.unusedVariables false
set_option linter.unusedSimpArgs false

theorem own : ownKnob Try.prog.godebug = none := by kernel_rfl
theorem laidOut : laidOutB Try.prog = true := by kernel_rfl

theorem cellsTip : Try.prog.cellsOf 23 = 2 := by kernel_rfl
theorem open_tips {H : Type} {enc : TypeId × Value → H} {w : World} {a : Option Addr} {len cap : Nat} {d : DataW H} {p : List MemPlace} (h : DataW.Trod enc Try.prog w 0 (fun _ => true) true 30 (.slice a len cap) d p) :
    ∃ l, TipsAt w (.slice a len cap) l := by
  obtain ⟨fuel, hf⟩ := h
  rcases open_slice_pairs Try.underlying30 Try.underlying23 cellsTip (by kernel_rfl) (by kernel_rfl) (by kernel_rfl) (by kernel_rfl) hf with ⟨hcs, _⟩ | ⟨x, l, c, m, n, V0, V1, D0, D1, P0, P1, hcs, _, hl, hm, hmm, _, hi⟩
  · simp [Value.cells] at hcs
    obtain ⟨rfl, rfl, rfl⟩ := hcs
    exact ⟨[], none, 0, rfl, by simp, fun h => absurd rfl h⟩
  · simp [Value.cells] at hcs
    obtain ⟨rfl, rfl, rfl⟩ := hcs
    have hml : m = cap := by simpa using hmm
    subst hml
    have each : ∀ i, i < len → ∃ z : Int × Int, V0 i = .int .i64 z.1 ∧ V1 i = .int .i64 z.2 := by
      intro i hil
      obtain ⟨_, _, g0, g1⟩ := hi i (by omega)
      obtain ⟨s, e0, _, _⟩ := DataW.trod_int Try.underlying3 g0
      obtain ⟨b, e1, _, _⟩ := DataW.trod_int Try.underlying3 g1
      simp at e0 e1
      exact ⟨(s, b), e0, e1⟩
    obtain ⟨z, hz⟩ := choose_lt each
    have hlen : ((List.range len).map z).length = len := by simp
    refine ⟨(List.range len).map z, some x, m, by rw [hlen], by rw [hlen]; omega, fun hne => ?_⟩
    have hpos : 0 < len := by
      rcases Nat.eq_zero_or_pos len with h0 | h0
      · subst h0; exact absurd rfl hne
      · exact h0
    obtain ⟨b, off, spot⟩ := x
    have hc0 := (hi 0 (by omega)).1
    have hspot : spot = none := by simpa [Addr.add] using World.cell?_spot hc0
    subst hspot
    refine ⟨b, off, rfl, by simpa [Addr.add] using World.block_lt_of_cell? _ _ hc0, fun i hil => ?_⟩
    rw [hlen] at hil
    obtain ⟨f0, f1, _, _⟩ := hi i (by omega)
    rw [add_plain] at f0 f1
    rw [(hz i hil).1] at f0
    rw [(hz i hil).2] at f1
    simp only [List.getD_eq_getElem?_getD, List.getElem?_map, List.getElem?_range hil]
    exact ⟨f0, f1⟩


theorem open_deeds {H : Type} {enc : TypeId × Value → H} {w : World} {a : Option Addr} {len cap : Nat} {d : DataW H} {p : List MemPlace} (h : DataW.Trod enc Try.prog w 0 (fun _ => true) true 38 (.slice a len cap) d p) :
    ∃ l, DeedsAt w (.slice a len cap) l := by
  obtain ⟨fuel, hf⟩ := h
  rcases open_slice_pairs Try.underlying38 Try.underlying40 (by kernel_rfl) (by kernel_rfl) (by kernel_rfl) (by kernel_rfl) (by kernel_rfl) hf with ⟨hcs, _⟩ | ⟨x, l, c, m, n, V0, V1, D0, D1, P0, P1, hcs, _, hl, hm, hmm, _, hi⟩
  · simp [Value.cells] at hcs
    obtain ⟨rfl, rfl, rfl⟩ := hcs
    exact ⟨[], none, 0, rfl, by simp, fun h => absurd rfl h⟩
  · simp [Value.cells] at hcs
    obtain ⟨rfl, rfl, rfl⟩ := hcs
    have hml : m = cap := by simpa using hmm
    subst hml
    have each : ∀ i, i < len → ∃ z : Bool × Int, V0 i = .bool z.1 ∧ V1 i = .int .i64 z.2 := by
      intro i hil
      obtain ⟨_, _, g0, g1⟩ := hi i (by omega)
      obtain ⟨s, e0, _⟩ := DataW.trod_bool Try.underlying4 g0
      obtain ⟨b, e1, _, _⟩ := DataW.trod_int Try.underlying3 g1
      simp at e0 e1
      exact ⟨(s, b), e0, e1⟩
    obtain ⟨z, hz⟩ := choose_lt each
    have hlen : ((List.range len).map z).length = len := by simp
    refine ⟨(List.range len).map z, some x, m, by rw [hlen], by rw [hlen]; omega, fun hne => ?_⟩
    have hpos : 0 < len := by
      rcases Nat.eq_zero_or_pos len with h0 | h0
      · subst h0; exact absurd rfl hne
      · exact h0
    obtain ⟨b, off, spot⟩ := x
    have hc0 := (hi 0 (by omega)).1
    have hspot : spot = none := by simpa [Addr.add] using World.cell?_spot hc0
    subst hspot
    refine ⟨b, off, rfl, by simpa [Addr.add] using World.block_lt_of_cell? _ _ hc0, fun i hil => ?_⟩
    rw [hlen] at hil
    obtain ⟨f0, f1, _, _⟩ := hi i (by omega)
    rw [add_plain] at f0 f1
    rw [(hz i hil).1] at f0
    rw [(hz i hil).2] at f1
    simp only [List.getD_eq_getElem?_getD, List.getElem?_map, List.getElem?_range hil]
    exact ⟨f0, f1⟩


theorem open_ints_at {H : Type} {enc : TypeId × Value → H} {w : World} {a : Option Addr} {len cap : Nat} {d : DataW H} {p : List MemPlace} (h : DataW.Trod enc Try.prog w 0 (fun _ => true) true 42 (.slice a len cap) d p) :
    ∃ l, IntsAt w (.slice a len cap) l := by
  obtain ⟨fuel, hf⟩ := h
  rcases open_ints Try.underlying42 Try.underlying3 (by kernel_rfl) hf with ⟨hcs, _⟩ | ⟨x, l, c, zs, hcs, _, hl, hm, hz, _, hcell, hwz⟩
  · simp [Value.cells] at hcs
    obtain ⟨rfl, rfl, rfl⟩ := hcs
    exact ⟨[], IntsAt.nil w⟩
  · simp [Value.cells] at hcs
    obtain ⟨rfl, rfl, rfl⟩ := hcs
    have hz' : zs.length = cap := by simpa using hz
    have hlen : (zs.take len).length = len := by rw [List.length_take]; omega
    refine ⟨zs.take len, some x, cap, by rw [hlen], by rw [hlen]; omega, hm, fun h => by simp at h, fun hne => ?_⟩
    have hpos : 0 < len := by
      rcases Nat.eq_zero_or_pos len with h0 | h0
      · subst h0; exact absurd rfl hne
      · exact h0
    obtain ⟨b, off, spot⟩ := x
    have hc0 := hcell 0 (by omega)
    have hspot : spot = none := by simpa [Addr.add] using World.cell?_spot hc0
    subst hspot
    refine ⟨b, off, rfl, by simpa [Addr.add] using World.block_lt_of_cell? _ _ hc0, fun i hil => ?_⟩
    rw [hlen] at hil
    have f0 := hcell i (by omega)
    rw [add_plain] at f0
    rw [f0]
    simp [List.getElem?_take, hil]

theorem open_ints_wf {H : Type} {enc : TypeId × Value → H} {w : World} {a : Option Addr} {len cap : Nat} {d : DataW H} {p : List MemPlace} (h : DataW.Trod enc Try.prog w 0 (fun _ => true) true 42 (.slice a len cap) d p) :
    ∃ l, IntsAt w (.slice a len cap) l ∧ Wfs l := by
  obtain ⟨fuel, hf⟩ := h
  rcases open_ints Try.underlying42 Try.underlying3 (by kernel_rfl) hf with ⟨hcs, _⟩ | ⟨x, l, c, zs, hcs, _, hl, hm, hz, _, hcell, hwz⟩
  · simp [Value.cells] at hcs
    obtain ⟨rfl, rfl, rfl⟩ := hcs
    exact ⟨[], IntsAt.nil w, fun n hn => by simp at hn⟩
  · simp [Value.cells] at hcs
    obtain ⟨rfl, rfl, rfl⟩ := hcs
    have hz' : zs.length = cap := by simpa using hz
    have hlen : (zs.take len).length = len := by rw [List.length_take]; omega
    refine ⟨zs.take len, ⟨some x, cap, by rw [hlen], by rw [hlen]; omega, hm, fun h => by simp at h, fun hne => ?_⟩, fun n hn => hwz n (List.mem_of_mem_take hn)⟩
    have hpos : 0 < len := by
      rcases Nat.eq_zero_or_pos len with h0 | h0
      · subst h0; exact absurd rfl hne
      · exact h0
    obtain ⟨b, off, spot⟩ := x
    have hc0 := hcell 0 (by omega)
    have hspot : spot = none := by simpa [Addr.add] using World.cell?_spot hc0
    subst hspot
    refine ⟨b, off, rfl, by simpa [Addr.add] using World.block_lt_of_cell? _ _ hc0, fun i hil => ?_⟩
    rw [hlen] at hil
    have f0 := hcell i (by omega)
    rw [add_plain] at f0
    rw [f0]
    simp [List.getElem?_take, hil]
theorem open_ints_one {H : Type} {enc : TypeId × Value → H} {w : World} {a : Option Addr} {len cap : Nat} {d : DataW H} {p : List MemPlace} (h : DataW.Trod enc Try.prog w 0 (fun _ => true) true 42 (.slice a len cap) d p) :
    ∃ l, IntsAt w (.slice a len cap) l := let ⟨l, h, _⟩ := open_ints_wf h; ⟨l, h⟩

end Go.Proofs.Ytdpinfigjeafpaa
