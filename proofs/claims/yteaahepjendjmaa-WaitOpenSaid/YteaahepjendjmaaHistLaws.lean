/- Plain laws of right histories: being ahead is an order; the order in which requests were done fits. -/
import Derived.Test.YteaahepjendjmaaHistRight2
namespace Go.Proofs.Yteaahepjendjmaa
open Go.RowKit
set_option linter.unusedVariables false
set_option linter.unusedSimpArgs false

def calledB (l : List Ev) (c : Int × Int) : Bool := (firstE (isOf 1 c) l).isSome
/-- What is wrong with a place of an order: it was there, or was not called. -/
def wrongAt (l : List Ev) (o : List (Int × Int)) (i : Nat) : Bool := decide (o.getD i default ∈ o.take i) || !calledB l (o.getD i default)
def lateAt (l : List Ev) (o : List (Int × Int)) (i : Nat) : Bool := (firstIdx (fun k => aheadB l (o.getD i default) (o.getD k default)) i).isSome
def missB (l : List Ev) (o : List (Int × Int)) : Bool := (callsE (isK 3) l).any fun c => !decide (c ∈ o)
def fitsB (l : List Ev) (o : List (Int × Int)) : Bool := (firstIdx (wrongAt l o) o.length).isNone && !missB l o && (firstIdx (lateAt l o) o.length).isNone

def cntW (x : Int) (l : List Ev) : Nat := (l.filter fun e => e.w == x).length
theorem cntW_snoc {l : List Ev} {k : Nat} {e : Ev} (h : l[k]? = some e) (x : Int) : cntW x (l.take (k + 1)) = cntW x (l.take k) + if e.w = x then 1 else 0 := by
  unfold cntW
  rw [List.take_add_one, h, Option.toList_some, List.filter_append, List.length_append]
  congr 1
  by_cases hx : e.w = x <;> simp [hx]
theorem cntW_mono (x : Int) (l : List Ev) {i j : Nat} (h : i ≤ j) : cntW x (l.take i) ≤ cntW x (l.take j) := by
  unfold cntW
  rw [show l.take i = (l.take j).take i from by rw [List.take_take, Nat.min_eq_left h]]
  exact ((List.take_sublist i _).filter _).length_le
theorem cntW_has (x : Int) (l : List Ev) (m : Nat) : ∀ k, m < cntW x (l.take k) → ∃ j e, j < k ∧ l[j]? = some e ∧ e.w = x ∧ cntW x (l.take j) = m
  | 0, h => by simp [cntW] at h
  | k + 1, h => by
    by_cases hm : m < cntW x (l.take k)
    · obtain ⟨j, e, hj, h1⟩ := cntW_has x l m k hm
      exact ⟨j, e, by omega, h1⟩
    · cases hke : l[k]? with
      | none =>
        exfalso
        apply hm
        rw [List.take_add_one, hke] at h
        simpa using h
      | some e =>
        have hs := cntW_snoc hke x
        by_cases hx : e.w = x
        · rw [if_pos hx] at hs
          exact ⟨k, e, by omega, hke, hx, by omega⟩
        · rw [if_neg hx] at hs
          omega

/-- What stands at a place of a right history. -/
structure GoodAt (l : List Ev) (i : Nat) (e : Ev) : Prop where
  lo : 1 ≤ e.w
  hi : e.w ≤ 8
  kind : e.k = ((cntW e.w (l.take i) % 3 + 1 : Nat) : Int)
  num : e.n = ((cntW e.w (l.take i) / 3 + 1 : Nat) : Int)
  pos : 0 < e.t

theorem right_state {l : List Ev} (h : rightB l = true) : ∀ k, k ≤ l.length → ∃ cs t, rightSt (l.take k) = some (cs, t) ∧ cs.length = 9 ∧ (∀ x : Nat, x < 9 → cs.getD x 0 = cntW x (l.take k)) ∧ 0 ≤ t ∧
    (∀ j e, j < k → l[j]? = some e → GoodAt l j e ∧ e.t ≤ t) ∧ ∀ i j e e', i < j → j < k → l[i]? = some e → l[j]? = some e' → e.t < e'.t
  | 0, _ => ⟨List.replicate 9 0, 0, rfl, rfl, fun x hx => by simp only [cntW, List.take_zero, List.filter_nil, List.length_nil, List.getD_eq_getElem?_getD, List.getElem?_replicate, if_pos hx, Option.getD_some], Int.le_refl _, fun j e hj => by omega, fun i j e e' hi hj => by omega⟩
  | k + 1, hk => by
    obtain ⟨cs, t, h1, h2, h3, h4, h5, h6⟩ := right_state h k (by omega)
    have hke : l[k]? = some l[k] := List.getElem?_eq_getElem (by omega)
    generalize l[k] = e at hke
    have hs := rightSt_snoc hke
    rw [h1, Option.bind_some] at hs
    cases hst : rightStep (cs, t) e with
    | none =>
      rw [hst] at hs
      have := rightSt_none hs
      simp [rightB, this] at h
    | some s =>
      rw [hst] at hs
      unfold rightStep at hst
      simp only at hst
      split at hst
      · rename_i hc
        obtain ⟨c1, c2, c3⟩ := hc
        split at hst
        · rename_i hd
          obtain ⟨d1, d2⟩ := hd
          cases hst
          obtain ⟨x, hx⟩ : ∃ x : Nat, e.w = x := ⟨e.w.toNat, by omega⟩
          have hx9 : x < 9 := by omega
          rw [hx] at d1 d2 hs
          simp only [Int.toNat_natCast, h3 x hx9] at d1 d2 hs
          have hg : GoodAt l k e := ⟨by omega, by omega, by rw [hx]; exact d1, by rw [hx]; exact d2, by omega⟩
          refine ⟨_, _, hs, by simp [h2], fun y hy => ?_, by omega, fun j e' hj hj' => ?_, fun i j a b hij hj ha hb => ?_⟩
          · rw [cntW_snoc hke, ← h3 y hy]
            by_cases hxy : x = y
            · subst hxy
              rw [if_pos hx]
              simp [List.getD_eq_getElem?_getD, h2, hx9, ← h3 x hx9]
            · rw [if_neg (by omega)]
              simp [List.getD_eq_getElem?_getD, List.getElem?_set, hxy]
          · rcases Nat.lt_succ_iff_lt_or_eq.1 hj with h7 | rfl
            · obtain ⟨g, g'⟩ := h5 j e' h7 hj'
              exact ⟨g, by omega⟩
            · rw [hke] at hj'
              cases hj'
              exact ⟨hg, Int.le_refl _⟩
          · rcases Nat.lt_succ_iff_lt_or_eq.1 hj with h7 | rfl
            · exact h6 i j a b hij h7 ha hb
            · rw [hke] at hb
              cases hb
              have := (h5 i a hij ha).2
              omega
        · cases hst
      · cases hst

section
variable {l : List Ev} (h : rightB l = true)
include h

theorem right_at {i : Nat} {e : Ev} (hi : l[i]? = some e) : GoodAt l i e := by
  obtain ⟨cs, t, _, _, _, _, h5, _⟩ := right_state h l.length (Nat.le_refl _)
  exact (h5 i e (List.getElem?_eq_some_iff.1 hi).1 hi).1
theorem right_time {i j : Nat} {e e' : Ev} (hij : i < j) (hi : l[i]? = some e) (hj : l[j]? = some e') : e.t < e'.t := by
  obtain ⟨cs, t, _, _, _, _, _, h6⟩ := right_state h l.length (Nat.le_refl _)
  exact h6 i j e e' hij (List.getElem?_eq_some_iff.1 hj).1 hi hj
theorem right_uniq_lt {i j : Nat} {e e' : Ev} (hi : l[i]? = some e) (hj : l[j]? = some e') (hk : e.k = e'.k) (ho : ofE e = ofE e') : ¬ i < j := by
  intro hlt
  have g := right_at h hi
  have g' := right_at h hj
  simp only [ofE, Prod.mk.injEq] at ho
  have k1 := g.kind
  have k2 := g'.kind
  have n1 := g.num
  have n2 := g'.num
  rw [← ho.1] at k2 n2
  have hs := cntW_snoc hi e.w
  rw [if_pos rfl] at hs
  have hm := cntW_mono e.w l (show i + 1 ≤ j from hlt)
  have := ho.2
  omega
theorem right_uniq {i j : Nat} {e e' : Ev} (hi : l[i]? = some e) (hj : l[j]? = some e') (hk : e.k = e'.k) (ho : ofE e = ofE e') : i = j := by
  have h1 := right_uniq_lt h hi hj hk ho
  have h2 := right_uniq_lt h hj hi hk.symm ho.symm
  omega
/-- What must have been ahead of an event. -/
theorem right_earlier {i : Nat} {e : Ev} (hi : l[i]? = some e) {k : Int} (hk : 1 ≤ k) (hke : k < e.k) : ∃ j e', j < i ∧ l[j]? = some e' ∧ e'.k = k ∧ ofE e' = ofE e := by
  have g := right_at h hi
  have k1 := g.kind
  have n1 := g.num
  obtain ⟨m, rfl⟩ : ∃ m : Nat, k = m := ⟨k.toNat, by omega⟩
  obtain ⟨j, e', hj, hj', hw, hc⟩ := cntW_has e.w l (cntW e.w (l.take i) / 3 * 3 + (m - 1)) i (by omega)
  have g' := right_at h hj'
  have k2 := g'.kind
  have n2 := g'.num
  rw [hw] at k2 n2
  refine ⟨j, e', hj, hj', by omega, ?_⟩
  simp only [ofE, Prod.mk.injEq]
  exact ⟨hw, by omega⟩
end

theorem firstE_some {p : Ev → Bool} {l : List Ev} {i : Nat} (h : firstE p l = some i) : ∃ e, l[i]? = some e ∧ p e = true := by
  obtain ⟨h1, h2, _⟩ := firstIdx_spec h
  refine ⟨l[i], List.getElem?_eq_getElem h1, ?_⟩
  simpa [List.getD_eq_getElem?_getD, h1] using h2
theorem firstE_of {p : Ev → Bool} {l : List Ev} {i : Nat} {e : Ev} (h : l[i]? = some e) (hp : p e = true) : ∃ j, firstE p l = some j ∧ j ≤ i := by
  cases hf : firstE p l with
  | none =>
    have := firstIdx_none_spec hf i (List.getElem?_eq_some_iff.1 h).1
    rw [List.getD_eq_getElem?_getD, h] at this
    simp [hp] at this
  | some j =>
    refine ⟨j, rfl, ?_⟩
    obtain ⟨_, _, h3⟩ := firstIdx_spec hf
    by_cases hji : j ≤ i
    · exact hji
    · have := h3 i (by omega)
      simp only [List.getD_eq_getElem?_getD, h] at this
      simp [hp] at this
theorem firstE_none {p : Ev → Bool} {l : List Ev} (h : firstE p l = none) {i : Nat} {e : Ev} (hi : l[i]? = some e) : p e = false := by
  cases hp : p e with
  | false => rfl
  | true =>
    obtain ⟨j, hj, _⟩ := firstE_of hi hp
    rw [h] at hj
    cases hj
theorem isOf_iff {k : Int} {c : Int × Int} {e : Ev} : isOf k c e = true ↔ e.k = k ∧ ofE e = c := by
  unfold isOf
  rw [Bool.and_eq_true, sameC_iff, beq_iff_eq]
theorem aheadB_iff {l : List Ev} {a b : Int × Int} : aheadB l a b = true ↔ ∃ i j, firstE (isOf 3 a) l = some i ∧ firstE (isOf 1 b) l = some j ∧ i < j := by
  unfold aheadB
  cases h1 : firstE (isOf 3 a) l <;> cases h2 : firstE (isOf 1 b) l <;> simp [ahead2]

/-- A call that was told was called ahead of that. -/
theorem right_called {l : List Ev} (h : rightB l = true) {c : Int × Int} {k : Int} {i : Nat} (hi : firstE (isOf k c) l = some i) (hk : 1 < k) : ∃ j, firstE (isOf 1 c) l = some j ∧ j < i := by
  obtain ⟨e, he, hp⟩ := firstE_some hi
  rw [isOf_iff] at hp
  obtain ⟨j, e', hj, hj', h1, h2⟩ := right_earlier h he (k := 1) (Int.le_refl _) (by omega)
  obtain ⟨j', h3, h4⟩ := firstE_of (p := isOf 1 c) hj' (isOf_iff.2 ⟨h1, by rw [h2]; exact hp.2⟩)
  exact ⟨j', h3, by omega⟩
theorem ahead_irrefl {l : List Ev} (h : rightB l = true) (a : Int × Int) : aheadB l a a = false := by
  rw [Bool.eq_false_iff]
  intro ha
  obtain ⟨i, j, h1, h2, h3⟩ := aheadB_iff.1 ha
  obtain ⟨j', h4, h5⟩ := right_called h h1 (by omega)
  rw [h2] at h4
  cases h4
  omega
theorem ahead_trans {l : List Ev} (h : rightB l = true) {a b c : Int × Int} (hab : aheadB l a b = true) (hbc : aheadB l b c = true) : aheadB l a c = true := by
  obtain ⟨i, j, h1, h2, h3⟩ := aheadB_iff.1 hab
  obtain ⟨i', j', h4, h5, h6⟩ := aheadB_iff.1 hbc
  obtain ⟨k, h7, h8⟩ := right_called h h4 (by omega)
  rw [h2] at h7
  cases h7
  exact aheadB_iff.2 ⟨i, j', h1, h5, by omega⟩
theorem ahead_asym {l : List Ev} (h : rightB l = true) {a b : Int × Int} (hab : aheadB l a b = true) : aheadB l b a = false := by
  rw [Bool.eq_false_iff]
  intro hba
  have := ahead_trans h hab hba
  rw [ahead_irrefl h] at this
  cases this

/-! The order in which requests were done. -/
theorem mem_callsE {p : Ev → Bool} {l : List Ev} {c : Int × Int} : c ∈ callsE p l ↔ ∃ (i : Nat) (e : Ev), l[i]? = some e ∧ p e = true ∧ ofE e = c := by
  unfold callsE
  simp only [List.mem_map, List.mem_filter]
  constructor
  · rintro ⟨e, ⟨h1, h2⟩, h3⟩
    obtain ⟨i, hi⟩ := List.mem_iff_getElem?.1 h1
    exact ⟨i, e, hi, h2, h3⟩
  · rintro ⟨i, e, h1, h2, h3⟩
    exact ⟨e, ⟨List.mem_iff_getElem?.2 ⟨i, h1⟩, h2⟩, h3⟩
/-- Two calls of a list of calls: where their events lie. -/
theorem callsE_pair (p : Ev → Bool) (l : List Ev) : (callsE p l).Pairwise fun c d => ∃ (i j : Nat) (e e' : Ev), i < j ∧ l[i]? = some e ∧ l[j]? = some e' ∧ p e = true ∧ p e' = true ∧ ofE e = c ∧ ofE e' = d := by
  unfold callsE
  rw [List.pairwise_map, List.pairwise_filter, List.pairwise_iff_getElem]
  intro i j hi hj hij hp hq
  exact ⟨i, j, l[i], l[j], hij, List.getElem?_eq_getElem hi, List.getElem?_eq_getElem hj, hp, hq, rfl, rfl⟩
theorem callsE_two {p : Ev → Bool} {l : List Ev} {a b : Nat} {c d : Int × Int} (hab : a < b) (ha : (callsE p l)[a]? = some c) (hb : (callsE p l)[b]? = some d) :
    ∃ (i j : Nat) (e e' : Ev), i < j ∧ l[i]? = some e ∧ l[j]? = some e' ∧ p e = true ∧ p e' = true ∧ ofE e = c ∧ ofE e' = d := by
  obtain ⟨ha1, ha2⟩ := List.getElem?_eq_some_iff.1 ha
  obtain ⟨hb1, hb2⟩ := List.getElem?_eq_some_iff.1 hb
  have := List.pairwise_iff_getElem.1 (callsE_pair p l) a b ha1 hb1 hab
  rw [ha2, hb2] at this
  exact this
theorem isK_iff {k : Int} {e : Ev} : isK k e = true ↔ e.k = k := by unfold isK; exact beq_iff_eq

theorem done_fits {l : List Ev} (h : rightB l = true) : fitsB l (callsE (isK 2) l) = true := by
  obtain ⟨o, ho⟩ : ∃ o, callsE (isK 2) l = o := ⟨_, rfl⟩
  have two : ∀ (a b : Nat) (c d : Int × Int), a < b → o[a]? = some c → o[b]? = some d → ∃ (i j : Nat) (e e' : Ev), i < j ∧ l[i]? = some e ∧ l[j]? = some e' ∧ e.k = 2 ∧ e'.k = 2 ∧ ofE e = c ∧ ofE e' = d := by
    intro a b c d hab ha hb
    rw [← ho] at ha hb
    obtain ⟨i, j, e, e', h1, h2, h3, h4, h5, h6, h7⟩ := callsE_two hab ha hb
    exact ⟨i, j, e, e', h1, h2, h3, isK_iff.1 h4, isK_iff.1 h5, h6, h7⟩
  have one : ∀ c ∈ o, ∃ (i : Nat) (e : Ev), l[i]? = some e ∧ e.k = 2 ∧ ofE e = c := by
    intro c hc
    rw [← ho] at hc
    obtain ⟨i, e, h1, h2, h3⟩ := mem_callsE.1 hc
    exact ⟨i, e, h1, isK_iff.1 h2, h3⟩
  have gd : ∀ i : Nat, i < o.length → ∃ c, o[i]? = some c ∧ o.getD i default = c := fun i hi => ⟨o[i], List.getElem?_eq_getElem hi, by simp [List.getD_eq_getElem?_getD, hi]⟩
  rw [ho]
  unfold fitsB
  rw [firstIdx_none, firstIdx_none]
  · simp only [Option.isNone_none, Bool.and_true, Bool.true_and, Bool.not_eq_true']
    unfold missB
    rw [List.any_eq_false]
    intro c hc
    obtain ⟨i, e, h1, h2, h3⟩ := mem_callsE.1 hc
    rw [isK_iff] at h2
    obtain ⟨j, e', hj, hj', h4, h5⟩ := right_earlier h h1 (k := 2) (by omega) (by omega)
    have : c ∈ o := by
      rw [← ho]
      exact mem_callsE.2 ⟨j, e', hj', isK_iff.2 h4, by rw [h5]; exact h3⟩
    simp [this]
  · intro i hi
    unfold lateAt
    rw [firstIdx_none]
    · rfl
    · intro k hk
      obtain ⟨c, hc, hc'⟩ := gd i hi
      obtain ⟨d, hd, hd'⟩ := gd k (by omega)
      rw [hc']
      show aheadB l c (o.getD k default) = false
      rw [hd', Bool.eq_false_iff]
      intro ha
      obtain ⟨p, q, h1, h2, h3⟩ := aheadB_iff.1 ha
      obtain ⟨a, b, e, e', h4, h5, h6, h7, h8, h9, h10⟩ := two k i d c hk hd hc
      obtain ⟨e1, h11, h12⟩ := firstE_some h1
      rw [isOf_iff] at h12
      obtain ⟨b', e2, h13, h14, h15, h16⟩ := right_earlier h h11 (k := 2) (by omega) (by omega)
      have hb : b' = b := right_uniq h h14 h6 (by omega) (by rw [h16, h12.2, h10])
      obtain ⟨a', e3, h17, h18, h19, h20⟩ := right_earlier h h5 (k := 1) (by omega) (by omega)
      obtain ⟨q', h21, h22⟩ := firstE_of (p := isOf 1 d) h18 (isOf_iff.2 ⟨h19, by rw [h20, h9]⟩)
      rw [h2] at h21
      cases h21
      omega
  · intro i hi
    obtain ⟨c, hc, hc'⟩ := gd i hi
    unfold wrongAt
    rw [hc']
    simp only [Bool.or_eq_false_iff, decide_eq_false_iff_not, Bool.not_eq_false']
    constructor
    · intro hm
      obtain ⟨k, hk⟩ := List.mem_iff_getElem?.1 hm
      rw [List.getElem?_take] at hk
      split at hk
      · rename_i hki
        obtain ⟨a, b, e, e', h4, h5, h6, h7, h8, h9, h10⟩ := two k i c c hki hk hc
        have := right_uniq h h5 h6 (by omega) (by rw [h9, h10])
        omega
      · cases hk
    · obtain ⟨a, e, h1, h2, h3⟩ := one c (List.mem_iff_getElem?.2 ⟨i, hc⟩)
      obtain ⟨a', e3, h17, h18, h19, h20⟩ := right_earlier h h1 (k := 1) (by omega) (by omega)
      obtain ⟨q', h21, h22⟩ := firstE_of (p := isOf 1 c) h18 (isOf_iff.2 ⟨h19, by rw [h20, h3]⟩)
      unfold calledB
      rw [h21]
      rfl

end Go.Proofs.Yteaahepjendjmaa
