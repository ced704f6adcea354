/- Plain laws of waits. -/
import Derived.Test.YteaahepjendjmaaHistOpen
namespace Go.Proofs.Yteaahepjendjmaa
open Go.RowKit
set_option linter.unusedVariables false
set_option linter.unusedSimpArgs false

/-- When a call had an event of a kind; 0: never. -/
def atT (k : Int) (c : Int × Int) (l : List Ev) : Int := match l.find? (isOf k c) with | some e => e.t | none => 0
theorem find_at {p : Ev → Bool} {l : List Ev} {k : Nat} {e : Ev} (h : NoneYet (fun j => p (l.getD j default)) k) (hk : l[k]? = some e) (hp : p e = true) : l.find? p = some e := by
  rw [List.find?_eq_some_iff_getElem]
  refine ⟨hp, k, (List.getElem?_eq_some_iff.1 hk).1, (List.getElem?_eq_some_iff.1 hk).2, fun j hj => ?_⟩
  have hjl : j < l.length := by have := (List.getElem?_eq_some_iff.1 hk).1; omega
  have := h j hj
  simp only [List.getD_eq_getElem?_getD, List.getElem?_eq_getElem hjl, Option.getD_some] at this
  simp [this]
theorem find_none_at {p : Ev → Bool} {l : List Ev} (h : NoneYet (fun j => p (l.getD j default)) l.length) : l.find? p = none := by
  rw [List.find?_eq_none]
  intro e he
  obtain ⟨j, hj, rfl⟩ := List.getElem_of_mem he
  have := h j hj
  simp only [List.getD_eq_getElem?_getD, List.getElem?_eq_getElem hj, Option.getD_some] at this
  simp [this]

abbrev Spn := Int × Int × Int
def updS (e : Ev) (s : Spn) : Spn := if e.k = 1 then (e.t, s.2.1, s.2.2) else if e.k = 2 then (s.1, e.t, s.2.2) else (s.1, s.2.1, e.t)
/-- What the first events say of each call. -/
def spanG (l : List Ev) (c : Int × Int) : Option Spn := l.foldl (fun s e => if c = ofE e then some (updS e (s.getD (0, 0, 0))) else s) none
theorem spanG_snoc {l : List Ev} {k : Nat} {e : Ev} (h : l[k]? = some e) (c : Int × Int) : spanG (l.take (k + 1)) c = if c = ofE e then some (updS e ((spanG (l.take k) c).getD (0, 0, 0))) else spanG (l.take k) c := by
  unfold spanG
  rw [List.take_add_one, h, Option.toList_some, List.foldl_append]
  rfl
theorem find_snoc {l : List Ev} {k : Nat} {e : Ev} (h : l[k]? = some e) (p : Ev → Bool) : (l.take (k + 1)).find? p = ((l.take k).find? p).or (if p e then some e else none) := by
  rw [List.take_add_one, h, Option.toList_some, List.find?_append]
  congr 1
  cases hp : p e <;> simp [hp]

theorem atT_get {l : List Ev} {k : Int} {c : Int × Int} (hz : atT k c l ≠ 0) : ∃ (i : Nat) (e : Ev), l[i]? = some e ∧ e.k = k ∧ ofE e = c ∧ atT k c l = e.t := by
  unfold atT at hz ⊢
  cases hf : l.find? (isOf k c) with
  | none => rw [hf] at hz; exact absurd rfl hz
  | some e =>
    have h1 := List.find?_some hf
    rw [isOf_iff] at h1
    obtain ⟨i, hi⟩ := List.mem_iff_getElem?.1 (List.mem_of_find?_eq_some hf)
    exact ⟨i, e, hi, h1.1, h1.2, rfl⟩

section
variable {l : List Ev} (h : rightB l = true)
include h
/-- At a place of a right history nothing was there of its kind and call. -/
theorem right_fresh {k : Nat} {e : Ev} (hk : l[k]? = some e) : (l.take k).find? (isOf e.k (ofE e)) = none := by
  rw [List.find?_eq_none]
  intro e' he' hp
  obtain ⟨j, hj⟩ := List.mem_iff_getElem?.1 he'
  rw [List.getElem?_take] at hj
  split at hj
  · rename_i hjk
    rw [isOf_iff] at hp
    have := right_uniq h hj hk hp.1 hp.2
    omega
  · cases hj
theorem right_kind {k : Nat} {e : Ev} (hk : l[k]? = some e) : e.k = 1 ∨ e.k = 2 ∨ e.k = 3 := by
  have := (right_at h hk).kind
  omega
theorem atT_snoc {k : Nat} {e : Ev} (hk : l[k]? = some e) (q : Int) (c : Int × Int) : atT q c (l.take (k + 1)) = if q = e.k ∧ c = ofE e then e.t else atT q c (l.take k) := by
  unfold atT
  rw [find_snoc hk]
  by_cases hq : q = e.k ∧ c = ofE e
  · obtain ⟨rfl, rfl⟩ := hq
    rw [right_fresh h hk, if_pos (isOf_iff.2 ⟨rfl, rfl⟩), if_pos ⟨rfl, rfl⟩]
    rfl
  · have hf : isOf q c e = false := by
      rw [Bool.eq_false_iff]
      intro hp
      rw [isOf_iff] at hp
      exact hq ⟨hp.1.symm, hp.2.symm⟩
    rw [hf, if_neg hq]
    simp
/-- What spans tell, of a right history. -/
theorem spanG_take (c : Int × Int) : ∀ k, k ≤ l.length → (spanG (l.take k) c).getD (0, 0, 0) = (atT 1 c (l.take k), atT 2 c (l.take k), atT 3 c (l.take k)) ∧ ((spanG (l.take k) c).isSome = (l.take k).any fun e => decide (c = ofE e))
  | 0, _ => by simp [spanG, atT]
  | k + 1, hk => by
    obtain ⟨ih1, ih2⟩ := spanG_take c k (by omega)
    have hke : l[k]? = some l[k] := List.getElem?_eq_getElem (by omega)
    generalize l[k] = e at hke
    have hany : (l.take (k + 1)).any (fun e => decide (c = ofE e)) = ((l.take k).any (fun e => decide (c = ofE e)) || decide (c = ofE e)) := by
      rw [List.take_add_one, hke, Option.toList_some, List.any_append]
      simp
    rw [spanG_snoc hke, atT_snoc h hke, atT_snoc h hke, atT_snoc h hke, hany]
    by_cases hc : c = ofE e
    · rw [if_pos hc, ih1]
      refine ⟨?_, by simp [hc]⟩
      unfold updS
      simp only [Option.getD_some, hc, and_true]
      rcases right_kind h hke with h1 | h1 | h1 <;> simp [h1]
    · rw [if_neg hc, ih1, ih2]
      simp [hc]
theorem spanG_eq (c : Int × Int) : (spanG l c).getD (0, 0, 0) = (atT 1 c l, atT 2 c l, atT 3 c l) := by
  have := (spanG_take h c l.length (Nat.le_refl _)).1
  rwa [List.take_length] at this
theorem atT_pos {i : Nat} {e : Ev} (hi : l[i]? = some e) : atT e.k (ofE e) l = e.t := by
  have h1 := right_fresh h hi
  unfold atT
  have : l.find? (isOf e.k (ofE e)) = some e := by
    refine find_at (k := i) (fun j hj => ?_) hi (isOf_iff.2 ⟨rfl, rfl⟩)
    rw [List.find?_eq_none] at h1
    have hil := (List.getElem?_eq_some_iff.1 hi).1
    have := h1 (l.getD j default) (List.mem_iff_getElem?.2 ⟨j, by rw [List.getElem?_take, if_pos hj, List.getElem?_eq_getElem (by omega)]; simp [List.getD_eq_getElem?_getD, show j < l.length by omega]⟩)
    simpa using this
  rw [this]
theorem atT_zero {k : Int} {c : Int × Int} (hz : atT k c l = 0) {i : Nat} {e : Ev} (hi : l[i]? = some e) : ¬ (e.k = k ∧ ofE e = c) := by
  rintro ⟨rfl, rfl⟩
  rw [atT_pos h hi] at hz
  have := (right_at h hi).pos
  omega
/-- Where a call has a later event, the earlier one was ahead of it. -/
theorem atT_order {c : Int × Int} {k q : Int} (hk : 1 ≤ k) (hkq : k < q) (hz : atT q c l ≠ 0) : 0 < atT k c l ∧ atT k c l < atT q c l := by
  obtain ⟨i, e, hi, h1, h2, h3⟩ := atT_get hz
  obtain ⟨j, e', hj, hj', h4, h5⟩ := right_earlier h hi hk (by omega)
  have h6 := atT_pos h hj'
  rw [h4, h5, h2] at h6
  rw [h6, h3]
  exact ⟨(right_at h hj').pos, right_time h hj hj' hi⟩
theorem spanG_some (c : Int × Int) : (spanG l c).isSome = decide (atT 1 c l ≠ 0) := by
  have := (spanG_take h c l.length (Nat.le_refl _)).2
  rw [List.take_length] at this
  rw [this, Bool.eq_iff_iff, List.any_eq_true]
  simp only [decide_eq_true_eq]
  constructor
  · rintro ⟨e, he, hc⟩
    obtain ⟨i, hi⟩ := List.mem_iff_getElem?.1 he
    have h1 := atT_pos h hi
    rw [← hc] at h1
    have hp := (right_at h hi).pos
    by_cases hk : e.k = 1
    · rw [hk] at h1
      omega
    · have hk2 := right_kind h hi
      have := atT_order h (c := c) (k := 1) (q := e.k) (by omega) (by omega) (by omega)
      omega
  · intro hz
    obtain ⟨i, e, hi, _, h2, _⟩ := atT_get hz
    exact ⟨e, List.mem_of_getElem? hi, h2.symm⟩
theorem told_at {c : Int × Int} (hc : c ∈ callsE (isK 3) l) : 0 < atT 1 c l ∧ atT 1 c l < atT 2 c l ∧ atT 2 c l < atT 3 c l := by
  obtain ⟨i, e, hi, hk, ho⟩ := mem_callsE.1 hc
  rw [isK_iff] at hk
  have h3 := atT_pos h hi
  have hp := (right_at h hi).pos
  rw [hk, ho] at h3
  have h2 := atT_order h (c := c) (k := 2) (q := 3) (by omega) (by omega) (by omega)
  have h1 := atT_order h (c := c) (k := 1) (q := 2) (by omega) (by omega) (by omega)
  exact ⟨h1.1, h1.2, h2.2⟩
end

theorem atT_le {l : List Ev} (hw : ∀ e ∈ l, WfE e) (k : Int) (c : Int × Int) : -9223372036854775808 ≤ atT k c l ∧ atT k c l ≤ 9223372036854775807 := by
  unfold atT
  cases hf : l.find? (isOf k c) with
  | none => simp
  | some e =>
    have := (hw e (List.mem_of_find?_eq_some hf)).2.2.2
    simp only [Lit.wf, Bool.and_eq_true, decide_eq_true_eq] at this
    exact this

end Go.Proofs.Yteaahepjendjmaa
