/- How long an arm rests: plain laws. -/
import Derived.Test.YteaahepjendjmaaWaitRows
namespace Go.Proofs.Yteaahepjendjmaa
open Go.RowKit
set_option linter.unusedVariables false
set_option linter.unusedSimpArgs false

/-- A sum, up to the end. -/
def restStep (who : Int) (s : Int × Int) (e : Ev) : Int × Int :=
  if e.w = who then (if e.k = 1 ∧ 0 < s.2 then addS s.1 (e.t - s.2) else s.1, if e.k = 3 then e.t else s.2) else s
def restS (who : Int) (l : List Ev) : Int × Int := l.foldl (restStep who) (0, 0)
theorem restS_snoc {who : Int} {l : List Ev} {k : Nat} {e : Ev} (h : l[k]? = some e) : restS who (l.take (k + 1)) = restStep who (restS who (l.take k)) e := by
  unfold restS
  rw [List.take_add_one, h, Option.toList_some, List.foldl_append]
  rfl
def restM (who : Int) (l : List Ev) : Int := if rightB l then (restS who l).1 else 0

/-- The rests ahead of an arm's calls. -/
def restR (who : Int) (l : List Ev) : Nat → Int
  | 0 => 0
  | 1 => 0
  | n + 2 => addS (restR who l (n + 1)) (atT 1 (who, ((n + 2 : Nat) : Int)) l - atT 3 (who, ((n + 1 : Nat) : Int)) l)
def restW (who : Int) (l : List Ev) : Nat → Int
  | 0 => 0
  | n + 1 => atT 3 (who, ((n + 1 : Nat) : Int)) l
/-- How many calls an arm has begun. -/
def begun (who : Int) (l : List Ev) : Nat := (cntW who l + 2) / 3

section
variable {l : List Ev} (h : rightB l = true)
include h
theorem restS_eq (who : Int) : ∀ k, k ≤ l.length → restS who (l.take k) = (restR who l ((cntW who (l.take k) + 2) / 3), restW who l (cntW who (l.take k) / 3))
  | 0, _ => by simp [restS, cntW, restR, restW]
  | k + 1, hk => by
    have ih := restS_eq who k (by omega)
    have hke : l[k]? = some l[k] := List.getElem?_eq_getElem (by omega)
    generalize l[k] = e at hke
    have hc := cntW_snoc hke who
    rw [restS_snoc hke, ih]
    unfold restStep
    by_cases hw : e.w = who
    · rw [if_pos hw] at hc ⊢
      have g := right_at h hke
      have k1 := g.kind
      have n1 := g.num
      rw [hw] at k1 n1
      have ht := atT_pos h hke
      have hpos := g.pos
      obtain ⟨q, r, hq, hr⟩ : ∃ q r, cntW who (l.take k) = 3 * q + r ∧ r < 3 := ⟨cntW who (l.take k) / 3, cntW who (l.take k) % 3, by omega, by omega⟩
      rw [hc, hq]
      rw [hq] at k1 n1
      have ho : ofE e = (who, ((q + 1 : Nat) : Int)) := by unfold ofE; rw [hw, n1]; congr 2; omega
      rw [ho] at ht
      rcases (show r = 0 ∨ r = 1 ∨ r = 2 by omega) with rfl | rfl | rfl
      · have hk1 : e.k = 1 := by omega
        rw [hk1] at ht
        rw [if_neg (show ¬ e.k = 3 from by omega), show (3 * q + 0 + 2) / 3 = q from by omega, show (3 * q + 0) / 3 = q from by omega, show (3 * q + 0 + 1 + 2) / 3 = q + 1 from by omega, show (3 * q + 0 + 1) / 3 = q from by omega]
        cases q with
        | zero =>
          rw [if_neg (show ¬ (e.k = 1 ∧ 0 < (restR who l 0, restW who l 0).2) from by simp [restW])]
          rfl
        | succ q =>
          obtain ⟨j, e', hj, hj', hw', hcnt⟩ := cntW_has who l (3 * q + 2) k (by omega)
          have g' := right_at h hj'
          have k2 := g'.kind
          have n2 := g'.num
          rw [hw', hcnt] at k2 n2
          have ht' := atT_pos h hj'
          have ho' : ofE e' = (who, ((q + 1 : Nat) : Int)) := by unfold ofE; rw [hw', n2]; congr 2; omega
          rw [ho', show e'.k = 3 from by omega] at ht'
          have hp' := g'.pos
          rw [if_pos (show e.k = 1 ∧ 0 < (restR who l (q + 1), restW who l (q + 1)).2 from ⟨hk1, by simp only [restW]; omega⟩)]
          simp only [restR, restW]
          rw [← ht]
      · have hk1 : e.k = 2 := by omega
        rw [if_neg (show ¬ (e.k = 1 ∧ _) from fun h => by omega), if_neg (show ¬ e.k = 3 from by omega), show (3 * q + 1 + 2) / 3 = q + 1 from by omega, show (3 * q + 1) / 3 = q from by omega, show (3 * q + 1 + 1 + 2) / 3 = q + 1 from by omega, show (3 * q + 1 + 1) / 3 = q from by omega]
      · have hk1 : e.k = 3 := by omega
        rw [hk1] at ht
        rw [if_neg (show ¬ (e.k = 1 ∧ _) from fun h => by omega), if_pos hk1, show (3 * q + 2 + 2) / 3 = q + 1 from by omega, show (3 * q + 2 + 1 + 2) / 3 = q + 1 from by omega, show (3 * q + 2 + 1) / 3 = q + 1 from by omega]
        simp only [restW]
        rw [← ht]
    · rw [if_neg hw] at hc ⊢
      rw [hc]
      simp only [Nat.add_zero]
theorem begun_iff (who : Int) (m : Nat) (hm : 1 ≤ m) : atT 1 (who, (m : Int)) l ≠ 0 ↔ m ≤ begun who l := by
  unfold begun
  constructor
  · intro hz
    obtain ⟨i, e, hi, h1, h2, _⟩ := atT_get hz
    have g := right_at h hi
    have k1 := g.kind
    have n1 := g.num
    simp only [ofE, Prod.mk.injEq] at h2
    have hs := cntW_snoc hi e.w
    rw [if_pos rfl] at hs
    have hmo := cntW_mono e.w l (show i + 1 ≤ l.length from (List.getElem?_eq_some_iff.1 hi).1)
    rw [List.take_length, h2.1] at hmo
    rw [h2.1] at hs k1 n1
    omega
  · intro hb hz
    obtain ⟨j, e, hj, hj', hw, hc⟩ := cntW_has who l (3 * (m - 1)) l.length (by rw [List.take_length]; omega)
    have g := right_at h hj'
    have k1 := g.kind
    have n1 := g.num
    rw [hw, hc] at k1 n1
    refine atT_zero h hz hj' ⟨by omega, ?_⟩
    unfold ofE
    rw [hw, n1]
    congr 2
    omega
/-- Ahead of a call that was begun the one before was told. -/
theorem begun_prev (who : Int) (m : Nat) (hm : 2 ≤ m) (hb : m ≤ begun who l) : 0 < atT 3 (who, ((m - 1 : Nat) : Int)) l ∧ atT 3 (who, ((m - 1 : Nat) : Int)) l < atT 1 (who, (m : Int)) l := by
  have hz := (begun_iff h who m (by omega)).2 hb
  obtain ⟨i, e, hi, h1, h2, h3⟩ := atT_get hz
  have g := right_at h hi
  have k1 := g.kind
  have n1 := g.num
  simp only [ofE, Prod.mk.injEq] at h2
  rw [h2.1] at k1 n1
  obtain ⟨j, e', hj, hj', hw, hc⟩ := cntW_has who l (3 * (m - 1) - 1) i (by omega)
  have g' := right_at h hj'
  have k2 := g'.kind
  have n2 := g'.num
  rw [hw, hc] at k2 n2
  have ht := atT_pos h hj'
  have ho : ofE e' = (who, ((m - 1 : Nat) : Int)) := by unfold ofE; rw [hw, n2]; congr 2; omega
  rw [ho, show e'.k = 3 from by omega] at ht
  rw [ht, h3]
  exact ⟨g'.pos, right_time h hj hj' hi⟩
theorem restM_eq (who : Int) : restM who l = restR who l (begun who l) := by
  unfold restM begun
  rw [if_pos h]
  have := restS_eq h who l.length (Nat.le_refl _)
  rw [List.take_length] at this
  rw [this]
end
theorem begun_le (who : Int) (l : List Ev) : begun who l ≤ l.length := by
  unfold begun
  have : cntW who l ≤ l.length := List.length_filter_le _ _
  rcases Nat.eq_zero_or_pos (cntW who l) with h0 | h0 <;> omega
theorem restR_bd {l : List Ev} (h : rightB l = true) (who : Int) : ∀ n, n ≤ begun who l → 0 ≤ restR who l n ∧ restR who l n ≤ 4611686018427387904
  | 0, _ => by simp [restR]
  | 1, _ => by simp [restR]
  | n + 2, hn => by
    have ih := restR_bd h who (n + 1) (by omega)
    have hp := begun_prev h who (n + 2) (by omega) hn
    simp only [restR]
    refine addS_bd ih ?_
    have : ((n + 2 - 1 : Nat) : Int) = ((n + 1 : Nat) : Int) := by omega
    rw [this] at hp
    omega
theorem restS_bd {l : List Ev} (h : rightB l = true) (who : Int) (k : Nat) (hk : k ≤ l.length) : 0 ≤ (restS who (l.take k)).1 ∧ (restS who (l.take k)).1 ≤ 4611686018427387904 := by
  rw [restS_eq h who k hk]
  refine restR_bd h who _ ?_
  have := cntW_mono who l hk
  rw [List.take_length] at this
  unfold begun
  omega
theorem restS_was {l : List Ev} (h : rightB l = true) (who : Int) {k : Nat} {e : Ev} (hke : l[k]? = some e) : 0 ≤ (restS who (l.take k)).2 ∧ (restS who (l.take k)).2 < e.t := by
  have hk := (List.getElem?_eq_some_iff.1 hke).1
  rw [restS_eq h who k (by omega)]
  have hp := (right_at h hke).pos
  obtain ⟨q, hq⟩ : ∃ q, cntW who (l.take k) / 3 = q := ⟨_, rfl⟩
  rw [hq]
  cases q with
  | zero => exact ⟨by simp [restW], by simpa [restW] using hp⟩
  | succ q =>
    obtain ⟨j, e', hj, hj', hw', hcnt⟩ := cntW_has who l (3 * q + 2) k (by omega)
    have g' := right_at h hj'
    have k2 := g'.kind
    have n2 := g'.num
    rw [hw', hcnt] at k2 n2
    have ht' := atT_pos h hj'
    have ho' : ofE e' = (who, ((q + 1 : Nat) : Int)) := by unfold ofE; rw [hw', n2]; congr 2; omega
    rw [ho', show e'.k = 3 from by omega] at ht'
    simp only [restW]
    rw [ht']
    have := right_time h hj hj' hke
    have := g'.pos
    omega

end Go.Proofs.Yteaahepjendjmaa
