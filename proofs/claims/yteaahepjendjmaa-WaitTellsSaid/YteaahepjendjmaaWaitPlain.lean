/- Plain laws: an arm's waits and rests add up; where one call is open at a time nobody is overtaken. -/
import Derived.Test.YteaahepjendjmaaWaitOver
import Derived.Test.YteaahepjendjmaaWaitRest
namespace Go.Proofs.Yteaahepjendjmaa
open Go.RowKit
set_option linter.unusedVariables false
set_option linter.unusedSimpArgs false

/-! Waits and rests. -/
/-- First and last event of an arm, and how many. -/
def addsStep (who : Int) (s : Int × Int × Nat) (e : Ev) : Int × Int × Nat := if e.w = who then (if s.2.2 = 0 then e.t else s.1, e.t, s.2.2 + 1) else s
def addsS (who : Int) (l : List Ev) : Int × Int × Nat := l.foldl (addsStep who) (0, 0, 0)
theorem addsS_snoc {who : Int} {l : List Ev} {k : Nat} {e : Ev} (h : l[k]? = some e) : addsS who (l.take (k + 1)) = addsStep who (addsS who (l.take k)) e := by
  unfold addsS
  rw [List.take_add_one, h, Option.toList_some, List.foldl_append]
  rfl
def lastT (who : Int) (l : List Ev) : Nat → Int
  | 0 => 0
  | c + 1 => atT ((c % 3 + 1 : Nat) : Int) (who, ((c / 3 + 1 : Nat) : Int)) l
def firstT (who : Int) (l : List Ev) : Nat → Int
  | 0 => 0
  | _ + 1 => atT 1 (who, 1) l
def sumA (who : Int) (l : List Ev) : Nat → Int × Int
  | 0 => (0, 0)
  | m + 1 => (addS (sumA who l m).1 (atT 2 (who, ((m + 1 : Nat) : Int)) l - atT 1 (who, ((m + 1 : Nat) : Int)) l), addS (sumA who l m).2 (atT 3 (who, ((m + 1 : Nat) : Int)) l - atT 2 (who, ((m + 1 : Nat) : Int)) l))
theorem addS_eq {a b : Int} (h : a + b ≤ 4611686018427387904) (ha : 0 ≤ a) : addS a b = a + b := by
  unfold addS
  rw [if_neg (by omega)]

section
variable {l : List Ev} (h : rightB l = true)
include h
theorem evAt {who : Int} {k : Nat} {e : Ev} (hke : l[k]? = some e) (hw : e.w = who) : e.k = ((cntW who (l.take k) % 3 + 1 : Nat) : Int) ∧ ofE e = (who, ((cntW who (l.take k) / 3 + 1 : Nat) : Int)) ∧ e.t = atT ((cntW who (l.take k) % 3 + 1 : Nat) : Int) (who, ((cntW who (l.take k) / 3 + 1 : Nat) : Int)) l := by
  have g := right_at h hke
  have k1 := g.kind
  have n1 := g.num
  rw [hw] at k1 n1
  have ho : ofE e = (who, ((cntW who (l.take k) / 3 + 1 : Nat) : Int)) := by unfold ofE; rw [hw, n1]
  refine ⟨k1, ho, ?_⟩
  rw [← ho, ← k1, atT_pos h hke]
theorem addsS_eq (who : Int) : ∀ k, k ≤ l.length → addsS who (l.take k) = (firstT who l (cntW who (l.take k)), lastT who l (cntW who (l.take k)), cntW who (l.take k))
  | 0, _ => by simp [addsS, cntW, firstT, lastT]
  | k + 1, hk => by
    have ih := addsS_eq who k (by omega)
    have hke : l[k]? = some l[k] := List.getElem?_eq_getElem (by omega)
    generalize l[k] = e at hke
    have hc := cntW_snoc hke who
    rw [addsS_snoc hke, ih]
    unfold addsStep
    by_cases hw : e.w = who
    · rw [if_pos hw] at hc ⊢
      obtain ⟨h1, h2, h3⟩ := evAt h hke hw
      rw [hc]
      generalize cntW who (l.take k) = c at *
      cases c with
      | zero =>
        simp only [if_true, firstT, lastT]
        rw [h3]
        rfl
      | succ c =>
        rw [if_neg (by simp)]
        simp only [firstT, lastT]
        rw [h3]
    · rw [if_neg hw] at hc ⊢
      rw [hc]
      simp only [Nat.add_zero]
theorem sumA_eq (who : Int) : ∀ k, k ≤ l.length → sumL who ((callsE (isK 3) (l.take k)).map (waitOf l)) = sumA who l (cntW who (l.take k) / 3)
  | 0, _ => by simp [sumL, callsE, cntW, sumA]
  | k + 1, hk => by
    have ih := sumA_eq who k (by omega)
    have hke : l[k]? = some l[k] := List.getElem?_eq_getElem (by omega)
    generalize l[k] = e at hke
    have hc := cntW_snoc hke who
    rw [callsE_snoc (isK 3) hke]
    by_cases hk3 : e.k = 3
    · rw [if_pos (isK_iff.2 hk3), List.map_append]
      have hs : sumL who ((callsE (isK 3) (l.take k)).map (waitOf l) ++ [ofE e].map (waitOf l)) = sumStep who (sumL who ((callsE (isK 3) (l.take k)).map (waitOf l))) (waitOf l (ofE e)) := by
        unfold sumL
        rw [List.foldl_append]
        rfl
      rw [hs, ih]
      unfold sumStep
      by_cases hw : e.w = who
      · rw [if_pos hw] at hc
        obtain ⟨h1, h2, h3⟩ := evAt h hke hw
        rw [if_pos (show (waitOf l (ofE e)).w = who from hw), hc]
        obtain ⟨q, hq⟩ : ∃ q, cntW who (l.take k) = 3 * q + 2 := ⟨cntW who (l.take k) / 3, by omega⟩
        rw [hq] at h2 ⊢
        rw [show (3 * q + 2) / 3 = q from by omega] at h2 ⊢
        rw [show (3 * q + 2 + 1) / 3 = q + 1 from by omega]
        simp only [sumA, waitOf]
        rw [h2]
      · rw [if_neg hw] at hc
        rw [if_neg (show ¬ (waitOf l (ofE e)).w = who from hw), hc]
        simp only [Nat.add_zero]
    · rw [if_neg (fun h => hk3 (isK_iff.1 h)), List.append_nil, ih]
      by_cases hw : e.w = who
      · rw [if_pos hw] at hc
        obtain ⟨h1, h2, h3⟩ := evAt h hke hw
        rw [hc, show (cntW who (l.take k) + 1) / 3 = cntW who (l.take k) / 3 from by omega]
      · rw [if_neg hw] at hc
        rw [hc]
        simp only [Nat.add_zero]
theorem sumL_all (who : Int) : sumL who (waitsL l) = sumA who l (cntW who l / 3) := by
  have := sumA_eq h who l.length (Nat.le_refl _)
  rw [List.take_length] at this
  rw [← this]
  unfold waitsL toldR
  rw [if_pos h]
theorem told_num (who : Int) (m : Nat) (hm : 3 * m < cntW who l + 0 ∨ 3 * (m + 1) ≤ cntW who l) (hm3 : 3 * (m + 1) ≤ cntW who l) : (who, ((m + 1 : Nat) : Int)) ∈ callsE (isK 3) l := by
  obtain ⟨j, e, hj, hj', hw, hc⟩ := cntW_has who l (3 * m + 2) l.length (by rw [List.take_length]; omega)
  obtain ⟨h1, h2, h3⟩ := evAt h hj' hw
  rw [hc] at h1 h2
  refine mem_callsE.2 ⟨j, e, hj', isK_iff.2 (by omega), ?_⟩
  rw [h2, show (3 * m + 2) / 3 = m from by omega]
/-- The sums, where nothing is cut off. -/
theorem adds_all (who : Int) (B : Int) (hB : B < 1152921504606846976) : ∀ m, 3 * (m + 1) ≤ cntW who l → atT 3 (who, ((m + 1 : Nat) : Int)) l - atT 1 (who, 1) l ≤ B →
    0 ≤ (sumA who l (m + 1)).1 ∧ 0 ≤ (sumA who l (m + 1)).2 ∧ 0 ≤ restR who l (m + 1) ∧ (sumA who l (m + 1)).1 + (sumA who l (m + 1)).2 + restR who l (m + 1) = atT 3 (who, ((m + 1 : Nat) : Int)) l - atT 1 (who, 1) l
  | 0, hm, hb => by
    obtain ⟨t1, t2, t3⟩ := told_at h (told_num h who 0 (.inr hm) hm)
    have e1 : ((0 + 1 : Nat) : Int) = 1 := rfl
    rw [e1] at t1 t2 t3 hb ⊢
    simp only [sumA, restR, e1]
    rw [addS_eq (by omega) (by omega), addS_eq (by omega) (by omega)]
    omega
  | m + 1, hm, hb => by
    obtain ⟨t1, t2, t3⟩ := told_at h (told_num h who (m + 1) (.inr hm) hm)
    have hp := begun_prev h who (m + 2) (by omega) (by unfold begun; omega)
    have e1 : ((m + 2 - 1 : Nat) : Int) = ((m + 1 : Nat) : Int) := by omega
    rw [e1] at hp
    have e2 : ((m + 2 : Nat) : Int) = ((m + 1 + 1 : Nat) : Int) := by omega
    rw [e2] at hp
    obtain ⟨i1, i2, i3, i4⟩ := adds_all who B hB m (by omega) (by omega)
    have hr : restR who l (m + 1 + 1) = addS (restR who l (m + 1)) (atT 1 (who, ((m + 1 + 1 : Nat) : Int)) l - atT 3 (who, ((m + 1 : Nat) : Int)) l) := rfl
    have hs : sumA who l (m + 1 + 1) = (addS (sumA who l (m + 1)).1 (atT 2 (who, ((m + 1 + 1 : Nat) : Int)) l - atT 1 (who, ((m + 1 + 1 : Nat) : Int)) l), addS (sumA who l (m + 1)).2 (atT 3 (who, ((m + 1 + 1 : Nat) : Int)) l - atT 2 (who, ((m + 1 + 1 : Nat) : Int)) l)) := rfl
    rw [hr, hs]
    simp only
    generalize (sumA who l (m + 1)).1 = x at *
    generalize (sumA who l (m + 1)).2 = y at *
    generalize restR who l (m + 1) = z at *
    rw [addS_eq (by omega) (by omega), addS_eq (by omega) (by omega), addS_eq (by omega) (by omega)]
    omega
/-- An arm's waits and rests are the steps from its first call to its last answer. -/
theorem adds_law (who : Int) {f t : Int} {n : Nat} (hs : addsS who l = (f, t, n)) (hn : n ≠ 0) (h3 : n % 3 = 0) (hb : t - f < 1152921504606846976) :
    0 ≤ (sumL who (waitsL l)).1 ∧ 0 ≤ (sumL who (waitsL l)).2 ∧ 0 ≤ restM who l ∧ (sumL who (waitsL l)).1 + (sumL who (waitsL l)).2 + restM who l = t - f := by
  have he := addsS_eq h who l.length (Nat.le_refl _)
  rw [List.take_length, hs] at he
  simp only [Prod.mk.injEq] at he
  obtain ⟨rfl, rfl, rfl⟩ := he
  rw [sumL_all h, restM_eq h]
  unfold begun
  obtain ⟨m, hm⟩ : ∃ m, cntW who l = 3 * (m + 1) := ⟨cntW who l / 3 - 1, by omega⟩
  rw [hm] at hb ⊢
  have e1 : lastT who l (3 * (m + 1)) = atT 3 (who, ((m + 1 : Nat) : Int)) l := by
    show atT (((3 * m + 2) % 3 + 1 : Nat) : Int) (who, (((3 * m + 2) / 3 + 1 : Nat) : Int)) l = _
    rw [show (3 * m + 2) % 3 = 2 from by omega, show (3 * m + 2) / 3 = m from by omega]
    rfl
  have e2 : firstT who l (3 * (m + 1)) = atT 1 (who, 1) l := rfl
  rw [e1, e2] at hb ⊢
  rw [show 3 * (m + 1) / 3 = m + 1 from by omega, show (3 * (m + 1) + 2) / 3 = m + 1 from by omega]
  exact adds_all h who _ hb m (by omega) (Int.le_refl _)
end

/-! One call at a time. -/
theorem nodup_le {α : Type} [DecidableEq α] : ∀ (s t : List α), s.Nodup → (∀ x ∈ s, x ∈ t) → s.length ≤ t.length
  | [], t, _, _ => by simp
  | x :: s, t, hn, hs => by
    rw [List.nodup_cons] at hn
    have hx := hs x (by simp)
    have := nodup_le s (t.erase x) hn.2 (fun y hy => by
      have hne : y ≠ x := fun h => hn.1 (h ▸ hy)
      exact (List.mem_erase_of_ne hne).2 (hs y (by simp [hy])))
    rw [List.length_erase_of_mem hx] at this
    have hpos := List.length_pos_of_mem hx
    simp only [List.length_cons]
    omega
theorem openS_cnt (l : List Ev) : ∀ k, k ≤ l.length → (openS (l.take k)).1 = ((callsE (isK 1) (l.take k)).length : Int) - ((callsE (isK 3) (l.take k)).length : Int)
  | 0, _ => by simp [openS, callsE]
  | k + 1, hk => by
    have ih := openS_cnt l k (by omega)
    have hke : l[k]? = some l[k] := List.getElem?_eq_getElem (by omega)
    generalize l[k] = e at hke
    rw [openS_snoc hke, callsE_snoc (isK 1) hke, callsE_snoc (isK 3) hke, List.length_append, List.length_append]
    unfold openStep
    simp only
    by_cases h1 : e.k = 1
    · rw [if_pos h1, if_pos (isK_iff.2 h1), if_neg (fun h => by have := isK_iff.1 h; omega), ih]
      simp
      omega
    · rw [if_neg h1, if_neg (fun h => h1 (isK_iff.1 h))]
      by_cases h3 : e.k = 3
      · rw [if_pos h3, if_pos (isK_iff.2 h3), ih]
        simp
        omega
      · rw [if_neg h3, if_neg (fun h => h3 (isK_iff.1 h)), ih]
        simp
theorem openS_mono (l : List Ev) {k : Nat} : ∀ m, k + m ≤ l.length → (openS (l.take k)).2 ≤ (openS (l.take (k + m))).2
  | 0, _ => Int.le_refl _
  | m + 1, hm => by
    have ih := openS_mono l (k := k) m (by omega)
    have hke : l[k + m]? = some l[k + m] := List.getElem?_eq_getElem (by omega)
    generalize l[k + m] = e at hke
    rw [show k + (m + 1) = k + m + 1 from rfl, openS_snoc hke]
    unfold openStep
    simp only
    refine Int.le_trans ih ?_
    split <;> omega
theorem openS_top (l : List Ev) {k : Nat} (hk : k < l.length) : (openS (l.take (k + 1))).1 ≤ (openS (l.take (k + 1))).2 := by
  have hke : l[k]? = some l[k] := List.getElem?_eq_getElem hk
  generalize l[k] = e at hke
  rw [openS_snoc hke]
  unfold openStep
  simp only
  generalize (if e.k = 1 then (openS (l.take k)).1 + 1 else if e.k = 3 then (openS (l.take k)).1 - 1 else (openS (l.take k)).1) = n
  split <;> omega

theorem alone_law {l : List Ev} (h : rightB l = true) (ho : openM l ≤ 1) (c : Int × Int) : overN l c = 0 := by
  unfold overN
  split
  · rfl
  · rename_i hz
    rw [List.length_eq_zero_iff, List.filter_eq_nil_iff]
    intro d hd hov
    exfalso
    unfold toldR at hd
    rw [if_pos h] at hd
    obtain ⟨t1, t2, t3⟩ := told_at h hd
    unfold overB at hov
    simp only [Bool.and_eq_true, Bool.or_eq_true, decide_eq_true_eq, beq_iff_eq, bne_iff_ne] at hov
    obtain ⟨⟨o1, o2⟩, o3⟩ := hov
    obtain ⟨i, e, hi, ei1, ei2, ei3⟩ := atT_get hz
    obtain ⟨j, e', hj, ej1, ej2, ej3⟩ := atT_get (show atT 1 d l ≠ 0 by omega)
    have hij : i < j := by
      rcases Nat.lt_trichotomy i j with hlt | heq | hgt
      · exact hlt
      · subst heq
        rw [hi] at hj
        cases hj
        rw [ei2] at ej2
        rw [ej2] at o1
        exact absurd rfl o1
      · have := right_time h hgt hj hi
        omega
    have hjl : j < l.length := (List.getElem?_eq_some_iff.1 hj).1
    have get : ∀ (m : Nat) (x : Ev), (l.take (j + 1))[m]? = some x → m ≤ j ∧ l[m]? = some x := by
      intro m x hm
      rw [List.getElem?_take] at hm
      split at hm
      · exact ⟨by omega, hm⟩
      · cases hm
    have put : ∀ (m : Nat) (x : Ev), m ≤ j → l[m]? = some x → (l.take (j + 1))[m]? = some x := by
      intro m x hm hx
      rw [List.getElem?_take, if_pos (by omega)]
      exact hx
    have hnc : c ∉ callsE (isK 3) (l.take (j + 1)) := by
      intro hm
      obtain ⟨m, x, hx, hk, hc⟩ := mem_callsE.1 hm
      rw [isK_iff] at hk
      obtain ⟨hmj, hx'⟩ := get m x hx
      have ht := atT_pos h hx'
      rw [hk, hc] at ht
      have hp := (right_at h hx').pos
      have : x.t ≤ e'.t := by
        rcases Nat.lt_or_ge m j with h1 | h1
        · exact Int.le_of_lt (right_time h h1 hx' hj)
        · obtain rfl : m = j := by omega
          rw [hx'] at hj
          cases hj
          exact Int.le_refl _
      rcases o3 with o3 | o3
      · omega
      · omega
    have hnd : d ∉ callsE (isK 3) (l.take (j + 1)) := by
      intro hm
      obtain ⟨m, x, hx, hk, hc⟩ := mem_callsE.1 hm
      rw [isK_iff] at hk
      obtain ⟨hmj, hx'⟩ := get m x hx
      have ht := atT_pos h hx'
      rw [hk, hc] at ht
      have : x.t ≤ e'.t := by
        rcases Nat.lt_or_ge m j with h1 | h1
        · exact Int.le_of_lt (right_time h h1 hx' hj)
        · obtain rfl : m = j := by omega
          rw [hx'] at hj
          cases hj
          exact Int.le_refl _
      omega
    have hcd : c ≠ d := fun hcd => o1 (by rw [hcd])
    have hnod : (callsE (isK 3) (l.take (j + 1))).Nodup := by
      rw [List.nodup_iff_pairwise_ne]
      refine (callsE_pair (isK 3) (l.take (j + 1))).imp ?_
      rintro a b ⟨p, q, x, y, hpq, hx, hy, hkx, hky, rfl, rfl⟩ hab
      obtain ⟨_, hx'⟩ := get p x hx
      obtain ⟨_, hy'⟩ := get q y hy
      have := right_uniq h hx' hy' (by rw [isK_iff.1 hkx, isK_iff.1 hky]) hab
      omega
    have hle := nodup_le (c :: d :: callsE (isK 3) (l.take (j + 1))) (callsE (isK 1) (l.take (j + 1))) (by
      rw [List.nodup_cons, List.nodup_cons]
      refine ⟨?_, hnd, hnod⟩
      rw [List.mem_cons]
      rintro (h1 | h1)
      · exact hcd h1
      · exact hnc h1) (by
      intro x hx
      rw [List.mem_cons, List.mem_cons] at hx
      rcases hx with rfl | rfl | hx
      · exact mem_callsE.2 ⟨i, e, put i e (by omega) hi, isK_iff.2 ei1, ei2⟩
      · exact mem_callsE.2 ⟨j, e', put j e' (Nat.le_refl _) hj, isK_iff.2 ej1, ej2⟩
      · obtain ⟨m, y, hy, hk, hc⟩ := mem_callsE.1 hx
        rw [isK_iff] at hk
        obtain ⟨hmj, hy'⟩ := get m y hy
        obtain ⟨q, y', hq, hq', hk', hc'⟩ := right_earlier h hy' (k := 1) (by omega) (by omega)
        exact mem_callsE.2 ⟨q, y', put q y' (by omega) hq', isK_iff.2 hk', by rw [hc', hc]⟩)
    simp only [List.length_cons] at hle
    have h1 := openS_cnt l (j + 1) (by omega)
    have h2 := openS_top l hjl
    have h3 := openS_mono l (k := j + 1) (l.length - (j + 1)) (by omega)
    rw [show j + 1 + (l.length - (j + 1)) = l.length from by omega, List.take_length] at h3
    unfold openM at ho
    rw [if_pos h] at ho
    omega

end Go.Proofs.Yteaahepjendjmaa
