/- Plain laws of plans: no program in sight. -/
import Derived.Test.YtacmigimkdiagaaPlanTwoRef
namespace Go.Proofs.Ytacmigimkdiagaa
set_option linter.unusedVariables false
set_option linter.unusedSimpArgs false

theorem putL_end {p : List Int} {x : Int} (h : ∀ y ∈ p, y < x) : putL p x = p ++ [x] := by
  induction p with
  | nil => rfl
  | cons a r ih => rw [putL, if_pos (h a (by simp)), ih (fun y hy => h y (by simp [hy]))]; rfl
theorem aboveB_end {p : List Int} {x : Int} (h : ∀ y ∈ p, y < x) : aboveB p x = true := by
  unfold aboveB
  by_cases h0 : p.length = 0
  · simp [h0]
  · rw [decide_eq_false h0, Bool.false_or, decide_eq_true_iff]
    have hm : p.getD (p.length - 1) 0 ∈ p := by
      rw [List.getD_eq_getElem?_getD, List.getElem?_eq_getElem (by omega)]
      exact List.getElem_mem _
    exact h _ hm
theorem lessL_end {q : List Int} {x : Int} (h : (q ++ [x]).Pairwise (· < ·)) : lessL (q ++ [x]) [x] = q := by
  obtain ⟨_, _, h3⟩ := List.pairwise_append.1 h
  unfold lessL
  rw [List.filter_append]
  have h1 : q.filter (fun n => !decide (n ∈ [x])) = q := by
    rw [List.filter_eq_self]
    intro y hy
    have := h3 y hy x (by simp)
    simp
    omega
  rw [h1]
  simp
theorem mid_lt {p r : List Int} {x : Int} (h : (p ++ x :: r).Pairwise (· < ·)) : ∀ y ∈ p, y < x := fun y hy => (List.pairwise_append.1 h).2.2 y hy x (by simp)

/-- What locks hold. -/
theorem locks_hold (looks : Bool) : ∀ (r p : List Int), (p ++ r).Pairwise (· < ·) → (locksL r looks).foldl holdStep p = p ++ r := by
  intro r
  induction r with
  | nil => intro p _; simp [locksL]
  | cons x r ih =>
    intro p h
    have hx := mid_lt h
    have hs : holdStep p (1, x) = p ++ [x] := putL_end hx
    have hl : holdStep (p ++ [x]) (2, x) = p ++ [x] := rfl
    have h' : ((p ++ [x]) ++ r).Pairwise (· < ·) := by simpa using h
    unfold locksL at ih ⊢
    rw [List.flatMap_cons, List.foldl_append]
    cases looks with
    | true =>
      rw [show ((kindsL true).map fun k => (k, x)).foldl holdStep p = p ++ [x] from by show holdStep (holdStep p (1, x)) (2, x) = _; rw [hs, hl], ih _ h']
      simp
    | false =>
      rw [show ((kindsL false).map fun k => (k, x)).foldl holdStep p = p ++ [x] from hs, ih _ h']
      simp
theorem frees_snoc (q : List Int) (x : Int) : frees (q ++ [x]) = (4, x) :: frees q := by simp [frees]
theorem snoc_of {q : List Int} (h : q ≠ []) : ∃ r x, q = r ++ [x] := ⟨q.dropLast, q.getLast h, (List.dropLast_concat_getLast h).symm⟩
/-- What is held behind some frees. -/
theorem frees_hold (i : Nat) : ∀ (q : List Int), q.Pairwise (· < ·) → i ≤ q.length → ((frees q).take i).foldl holdStep q = q.take (q.length - i) := by
  induction i with
  | zero => intro q _ _; simp
  | succ i ih =>
    intro q hq hi
    obtain ⟨r, x, rfl⟩ := snoc_of (show q ≠ [] by intro h; subst h; simp at hi)
    simp only [List.length_append, List.length_singleton] at hi ⊢
    rw [frees_snoc, List.take_succ_cons, List.foldl_cons, show holdStep (r ++ [x]) (4, x) = r from lessL_end hq, ih r (List.pairwise_append.1 hq).1 (by omega)]
    rw [List.take_append_of_le_length (by omega)]
    congr 1
    omega
theorem frees_at {q : List Int} {i : Nat} (hi : i < q.length) : (frees q)[i]? = some (4, q.getD (q.length - 1 - i) 0) := by
  unfold frees
  rw [List.getElem?_map, List.getElem?_reverse hi, List.getD_eq_getElem?_getD, List.getElem?_eq_getElem (by omega)]
  rfl
theorem way_len (q : List Int) : (wayL q).length = q.length + 1 := by unfold wayL; rw [List.length_append, frees_len]; rfl
theorem way_hold {q : List Int} (hq : q.Pairwise (· < ·)) : (wayL q).foldl holdStep q = [] := by
  have h := frees_hold q.length q hq (Nat.le_refl _)
  rw [← frees_len q, List.take_length, frees_len, Nat.sub_self, List.take_zero] at h
  unfold wayL
  rw [List.foldl_append, h]
  rfl
theorem way_free {q : List Int} (hq : q.Pairwise (· < ·)) {i : Nat} {d : Int × Int} (hd : (wayL q)[i]? = some d) (h4 : d.1 = 4) : d.2 ∈ ((wayL q).take i).foldl holdStep q := by
  have hi : i < q.length := by
    have hl := (List.getElem?_eq_some_iff.1 hd).1
    rw [way_len] at hl
    by_cases h : i < q.length
    · exact h
    · obtain rfl : i = q.length := by omega
      unfold wayL at hd
      rw [List.getElem?_append_right (by rw [frees_len]; omega), frees_len, Nat.sub_self] at hd
      obtain rfl := Option.some.inj hd
      exact absurd h4 (by decide)
  unfold wayL at hd ⊢
  rw [List.getElem?_append_left (by rw [frees_len]; exact hi), frees_at hi] at hd
  obtain rfl := Option.some.inj hd
  rw [List.take_append_of_le_length (by rw [frees_len]; omega), frees_hold i q hq (by omega), List.getD_eq_getElem?_getD, List.getElem?_eq_getElem (by omega)]
  rw [Option.getD_some, List.mem_take_iff_getElem]
  exact ⟨q.length - 1 - i, by omega, rfl⟩

/-- The plan of a rising list. -/
theorem plan_rise {ids : List Int} (h : riseB ids = true) (looks : Bool) : planL ids looks = locksL ids looks ++ [(3, 0)] ++ wayL ids := by unfold planL; rw [if_pos h]
theorem locks_len (ids : List Int) (looks : Bool) : (locksL ids looks).length = (if looks then 2 else 1) * ids.length := by
  unfold locksL
  induction ids with
  | nil => simp
  | cons x ids ih =>
    rw [List.flatMap_cons, List.length_append, ih, List.length_cons]
    cases looks <;> simp [kindsL] <;> omega
theorem plan_len {ids : List Int} (h : riseB ids = true) (looks : Bool) (hm : ids.length ≤ 200) : ((planL ids looks).length : Int) = stepsN ids.length looks := by
  rw [plan_rise h, List.length_append, List.length_append, locks_len, way_len]
  unfold stepsN
  rw [if_neg (show ¬ ((ids.length : Int) < 0 ∨ 65536 < (ids.length : Int)) by omega)]
  cases looks
  · simp only [Bool.false_eq_true, if_false, List.length_singleton]; push_cast; omega
  · simp only [if_true, List.length_singleton]; push_cast; omega
theorem plan_len_le (ids : List Int) (looks : Bool) : (planL ids looks).length ≤ 3 * ids.length + 2 := by
  unfold planL
  split
  · have := locksL_len ids looks
    rw [List.length_append, List.length_append, way_len, List.length_singleton]
    omega
  · simp
theorem plan_hold {ids : List Int} (h : riseB ids = true) (looks : Bool) : holdsL (planL ids looks) = [] := by
  have hp := (rise_pairwise ids).1 h
  unfold holdsL
  rw [plan_rise h, List.foldl_append, List.foldl_append, locks_hold looks ids [] hp]
  exact way_hold hp
theorem locks_kind {ids : List Int} {looks : Bool} {d : Int × Int} (h : d ∈ locksL ids looks) : d.1 ≠ 3 := by
  unfold locksL at h
  obtain ⟨x, _, h2⟩ := List.mem_flatMap.1 h
  cases looks <;> simp [kindsL] at h2
  · subst h2; simp
  · rcases h2 with rfl | rfl <;> simp
theorem way_kind {ids : List Int} {d : Int × Int} (h : d ∈ wayL ids) : d.1 ≠ 3 := by
  unfold wayL frees at h
  simp at h
  rcases h with ⟨x, _, rfl⟩ | rfl <;> simp
/-- When the request is done, all ids are held. -/
theorem plan_done {ids : List Int} (h : riseB ids = true) {looks : Bool} {k : Nat} {d : Int × Int} (hd : (planL ids looks)[k]? = some d) (h3 : d.1 = 3) : holdsL ((planL ids looks).take k) = ids := by
  have hp := (rise_pairwise ids).1 h
  rw [plan_rise h, List.append_assoc] at hd ⊢
  by_cases h1 : k < (locksL ids looks).length
  · rw [List.getElem?_append_left h1] at hd
    exact absurd h3 (locks_kind (List.mem_of_getElem? hd))
  · by_cases h2 : k = (locksL ids looks).length
    · subst h2
      rw [List.take_left]
      exact locks_hold looks ids [] hp
    · rw [List.getElem?_append_right (by omega), List.getElem?_append_right (by simp; omega)] at hd
      exact absurd h3 (way_kind (List.mem_of_getElem? hd))

/-- A plan is two-phased. -/
theorem two_locks (looks : Bool) (rest : List (Int × Int)) : ∀ (r p : List Int), (p ++ r).Pairwise (· < ·) → twoGo (locksL r looks ++ rest) (0, p) = twoGo rest (0, p ++ r) := by
  intro r
  induction r with
  | nil => intro p _; simp [locksL]
  | cons x r ih =>
    intro p h
    have hx := mid_lt h
    have h' : ((p ++ [x]) ++ r).Pairwise (· < ·) := by simpa using h
    have s1 : ∀ t, twoGo ((1, x) :: t) (0, p) = twoGo t (0, p ++ [x]) := by
      intro t
      rw [twoGo, may_one, if_pos ⟨rfl, aboveB_end hx⟩]
      rfl
    have s2 : ∀ t, twoGo ((2, x) :: t) (0, p ++ [x]) = twoGo t (0, p ++ [x]) := by
      intro t
      rw [twoGo, may_two, if_pos ⟨rfl, by simp⟩]
      rfl
    have hi := ih _ h'
    unfold locksL at hi ⊢
    rw [List.flatMap_cons]
    cases looks with
    | true =>
      show twoGo ((1, x) :: (2, x) :: _) _ = _
      rw [s1, s2]
      refine hi.trans ?_
      simp
    | false =>
      show twoGo ((1, x) :: _) _ = _
      rw [s1]
      refine hi.trans ?_
      simp
theorem two_way : ∀ (n : Nat) (q : List Int), q.length = n → q.Pairwise (· < ·) → twoGo (wayL q) (1, q) = true := by
  intro n
  induction n with
  | zero =>
    intro q hn _
    obtain rfl := List.length_eq_zero_iff.1 hn
    rfl
  | succ n ih =>
    intro q hn hq
    obtain ⟨r, x, rfl⟩ := snoc_of (show q ≠ [] by intro h; subst h; simp at hn)
    unfold wayL
    rw [frees_snoc, List.cons_append, twoGo, may_four, if_pos ⟨rfl, by simp⟩, lessL_end hq]
    exact ih r (by simpa using hn) (List.pairwise_append.1 hq).1
theorem plan_is_two {ids : List Int} (h : riseB ids = true) (looks : Bool) : twoB (planL ids looks) = true := by
  have hp := (rise_pairwise ids).1 h
  unfold twoB
  rw [plan_rise h, List.append_assoc, two_locks looks _ ids [] hp, List.nil_append, List.singleton_append, twoGo, may_three, if_pos ⟨rfl, rfl⟩]
  exact two_way _ ids rfl hp

/-- The first deeds of a plan. -/
theorem locks_take (looks : Bool) : ∀ (ids : List Int) (k : Nat), k ≤ ids.length → (locksL ids looks).take ((if looks then 2 else 1) * k) = locksL (ids.take k) looks := by
  intro ids
  induction ids with
  | nil =>
    intro k hk
    obtain rfl : k = 0 := by simpa using hk
    simp [locksL]
  | cons x ids ih =>
    intro k hk
    cases k with
    | zero => simp [locksL]
    | succ k =>
      have hi := ih k (by simpa using hk)
      unfold locksL at hi ⊢
      rw [List.take_succ_cons, List.flatMap_cons, List.flatMap_cons, ← hi]
      cases looks with
      | true =>
        show ((1, x) :: (2, x) :: _).take (2 * (k + 1)) = (1, x) :: (2, x) :: _
        rw [show 2 * (k + 1) = 2 * k + 1 + 1 by omega, List.take_succ_cons, List.take_succ_cons]
        rfl
      | false =>
        show ((1, x) :: _).take (1 * (k + 1)) = (1, x) :: _
        rw [show 1 * (k + 1) = 1 * k + 1 by omega, List.take_succ_cons]
        rfl
theorem plan_take {ids : List Int} (h : riseB ids = true) (looks : Bool) {k : Nat} (hk : k ≤ ids.length) : (planL ids looks).take ((if looks then 2 else 1) * k) = locksL (ids.take k) looks := by
  rw [plan_rise h, List.append_assoc, List.take_append_of_le_length (by rw [locks_len]; exact Nat.mul_le_mul_left _ hk), locks_take looks ids k hk]
theorem back_hold {ids : List Int} (h : riseB ids = true) (looks : Bool) (k : Nat) : holdsL (locksL (ids.take k) looks) = ids.take k :=
  locks_hold looks (ids.take k) [] (((rise_pairwise ids).1 h).sublist (List.take_sublist _ _))
theorem back_way {ids : List Int} (h : riseB ids = true) (k : Nat) : wayB ids k = wayL (ids.take k) := by unfold wayB; rw [if_pos h]; rfl
theorem back_all {ids : List Int} (h : riseB ids = true) (looks : Bool) (k : Nat) : holdsL (locksL (ids.take k) looks ++ wayL (ids.take k)) = [] := by
  have hp : (ids.take k).Pairwise (· < ·) := ((rise_pairwise ids).1 h).sublist (List.take_sublist _ _)
  unfold holdsL
  rw [List.foldl_append, locks_hold looks _ [] hp]
  exact way_hold hp
theorem back_free {ids : List Int} (h : riseB ids = true) (looks : Bool) (k : Nat) {i : Nat} {d : Int × Int} (hd : (wayL (ids.take k))[i]? = some d) (h4 : d.1 = 4) :
    d.2 ∈ holdsL ((locksL (ids.take k) looks ++ wayL (ids.take k)).take ((locksL (ids.take k) looks).length + i)) := by
  have hp : (ids.take k).Pairwise (· < ·) := ((rise_pairwise ids).1 h).sublist (List.take_sublist _ _)
  rw [List.take_length_add_append]
  unfold holdsL
  rw [List.foldl_append, locks_hold looks _ [] hp]
  exact way_free hp hd h4

end Go.Proofs.Ytacmigimkdiagaa
