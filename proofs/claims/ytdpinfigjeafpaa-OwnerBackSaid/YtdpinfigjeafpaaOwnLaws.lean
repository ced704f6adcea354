/- Plain laws of owners: what is taken, and given back. -/
import Derived.Test.YtdpinfigjeafpaaOwnRef
namespace Go.Proofs.Ytdpinfigjeafpaa
set_option linter.unusedVariables false
set_option linter.unusedSimpArgs false

theorem firstIdx_isNone {f : Nat → Bool} {n : Nat} : (firstIdx f n).isNone = true ↔ NoneYet f n := by
  constructor
  · intro h
    exact firstIdx_none_spec (by simpa using h)
  · intro h
    rw [firstIdx_none h]
    rfl
theorem firstIdx_eq_none {f : Nat → Bool} {n : Nat} : firstIdx f n = none ↔ NoneYet f n := ⟨firstIdx_none_spec, firstIdx_none⟩
theorem rightO_iff (l : List Int) : rightO l = true ↔ ∀ j, j < l.length → ownB (l.getD j 0) = true := by
  unfold rightO
  rw [firstIdx_isNone]
  constructor
  · intro h j hj
    have := h j hj
    simpa using this
  · intro h j hj
    simp only [h j hj]
    rfl
theorem setAll_getD (y : Int) : ∀ (ids o : List Int), InRange o.length ids → ∀ j, j < o.length → (setAll o ids y).getD j 0 = if (j : Int) ∈ ids then y else o.getD j 0 := by
  intro ids
  induction ids with
  | nil => intro o _ j _; rfl
  | cons a r ih =>
    intro o hr j hj
    have ha := hr 0 (by simp)
    simp at ha
    have hr' : InRange (o.set a.toNat y).length r := fun k hk => by
      have := hr (k + 1) (by simpa using hk)
      simpa using this
    have e := ih (o.set a.toNat y) hr' j (by simpa using hj)
    have e0 : setAll o (a :: r) y = setAll (o.set a.toNat y) r y := rfl
    rw [e0, e]
    by_cases h1 : (j : Int) ∈ r
    · simp [h1]
    · by_cases h2 : (j : Int) = a
      · have h3 : a.toNat = j := by omega
        rw [if_neg h1, if_pos (by rw [h2]; simp), List.getD_eq_getElem?_getD, h3]
        simp [hj]
      · have h3 : a.toNat ≠ j := by omega
        have h4 : ¬ (j : Int) ∈ a :: r := by simp [h1, h2]
        rw [if_neg h1, if_neg h4, List.getD_eq_getElem?_getD, List.getElem?_set_ne h3, ← List.getD_eq_getElem?_getD]
theorem list_getD_ext {a b : List Int} (hl : a.length = b.length) (h : ∀ j, j < a.length → a.getD j 0 = b.getD j 0) : a = b := by
  apply List.ext_getElem hl
  intro i h1 h2
  have := h i h1
  simpa [h1, h2] using this
theorem setAll_right {o ids : List Int} {y : Int} (hr : InRange o.length ids) (ho : rightO o = true) (hy : ownB y = true) : rightO (setAll o ids y) = true := by
  rw [rightO_iff] at *
  intro j hj
  rw [setAll_length] at hj
  rw [setAll_getD y ids o hr j hj]
  split
  · exact hy
  · exact ho j hj
theorem inRange_mem {n : Nat} {ids : List Int} (h : InRange n ids) {x : Int} (hx : x ∈ ids) : 0 ≤ x ∧ x < n := by
  obtain ⟨j, hj, rfl⟩ := List.getElem_of_mem hx
  have := h j hj
  simpa [hj] using this
theorem inRange_of {n : Nat} {ids : List Int} (h : ∀ x ∈ ids, 0 ≤ x ∧ x < (n : Int)) : InRange n ids := fun j hj => by
  have := h (ids.getD j 0) (by simp [hj])
  exact this
theorem turnBad_iff {n : Nat} {ids : List Int} : turnBad n ids = none ↔ InRange n ids := by
  refine ⟨turnBad_none, fun h => firstIdx_none fun j hj => ?_⟩
  have := h j hj
  simp at this
  simp
  omega
theorem turnNot_iff {o ids : List Int} {pm : Int → Bool} : turnNot o ids pm = none ↔ ∀ x ∈ ids, pm (o.getD x.toNat 0) = true := by
  unfold turnNot
  rw [firstIdx_eq_none]
  constructor
  · intro h x hx
    obtain ⟨j, hj, rfl⟩ := List.getElem_of_mem hx
    have := h j hj
    simpa [hj] using this
  · intro h j hj
    have := h (ids.getD j 0) (by simp [hj])
    simp only [this]
    rfl
theorem turn_mk {o ids : List Int} {who y er : Int} {pm : Int → Bool} (h1 : rightO o = true) (h2 : armN who = true) (h3 : riseB ids = true) (h4 : InRange o.length ids) (h5 : ∀ x ∈ ids, pm (o.getD x.toNat 0) = true) :
    turnR o ids who y er pm = (setAll o ids y, 0, 0) := turnR_none (by rw [h1, h2, h3]; rfl) (turnBad_iff.2 h4) (turnNot_iff.2 h5)
theorem turn_ok {o ids : List Int} {who y er : Int} {pm : Int → Bool} (her : er ≠ 0) (h : (turnR o ids who y er pm).2.2 = 0) :
    turnR o ids who y er pm = (setAll o ids y, 0, 0) ∧ rightO o = true ∧ armN who = true ∧ riseB ids = true ∧ InRange o.length ids ∧ ∀ x ∈ ids, pm (o.getD x.toNat 0) = true := by
  unfold turnR at *
  by_cases hok : (rightO o && armN who && riseB ids) = true
  · rw [if_pos hok] at *
    cases hb : turnBad o.length ids with
    | some k => rw [hb] at h; simp at h
    | none =>
      rw [hb] at h
      cases hn : turnNot o ids pm with
      | some k => rw [hn] at h; exact absurd h her
      | none =>
        simp only [Bool.and_eq_true] at hok
        exact ⟨rfl, hok.1.1, hok.1.2, hok.2, turnBad_iff.1 hb, turnNot_iff.1 hn⟩
  · rw [if_neg hok] at h
    simp at h
theorem turn_not_busy {o ids : List Int} {who y er : Int} {pm : Int → Bool} (h5 : InRange o.length ids → ∀ x ∈ ids, pm (o.getD x.toNat 0) = true) (h1 : er ≠ 1) (h3 : er ≠ 3) (h0 : er ≠ 0) : (turnR o ids who y er pm).2.2 ≠ er := by
  unfold turnR
  by_cases hok : (rightO o && armN who && riseB ids) = true
  · rw [if_pos hok]
    cases hb : turnBad o.length ids with
    | some k => exact fun e => h3 e.symm
    | none =>
      rw [turnNot_iff.2 (h5 (turnBad_iff.1 hb))]
      exact fun e => h0 e.symm
  · rw [if_neg hok]
    exact fun e => h1 e.symm
theorem armN_own {n : Int} (h : armN n = true) : ownB n = true := by simp [ownB, h]

/-- What is taken of nobody's things is lacked by nobody, and given back it leaves the owners as they were. -/
theorem back_law {O s : List Int} {who : Int} (hz : ∀ x ∈ s, 0 ≤ x → x < (O.length : Int) → O.getD x.toNat 0 = 0) :
    (takeR O s who).2.2 ≠ 140 ∧ ((takeR O s who).2.2 = 0 → ∃ T, takeR O s who = (T, 0, 0) ∧ T.length = O.length ∧ lacksV T s who = .tuple #[.int .i64 0, .bool false] ∧ giveR T s who = (O, 0, 0)) := by
  constructor
  · refine turn_not_busy (fun hr x hx => ?_) (by decide) (by decide) (by decide)
    have := inRange_mem hr hx
    rw [hz x hx this.1 this.2]
    rfl
  · intro h
    obtain ⟨e, h1, h2, h3, h4, h5⟩ := turn_ok (by decide) h
    have hg : ∀ x ∈ s, (setAll O s who).getD x.toNat 0 = who := fun x hx => by
      have := inRange_mem h4 hx
      rw [setAll_getD who s O h4 x.toNat (by omega), if_pos (by rw [Int.toNat_of_nonneg this.1]; exact hx)]
    have hr2 : InRange (setAll O s who).length s := by rw [setAll_length]; exact h4
    refine ⟨setAll O s who, e, setAll_length _ _ _, ?_, ?_⟩
    · refine lacksV_none (firstIdx_none fun j hj => ?_)
      have h6 := hr2 j hj
      have h7 := hg (s.getD j 0) (by simp [hj])
      unfold lackAt
      rw [h7]
      simp at h6
      simp
      omega
    · unfold giveR
      rw [turn_mk (setAll_right h4 h1 (armN_own h2)) h2 h3 hr2 (fun x hx => by rw [hg x hx]; simp [giveP])]
      have e2 : setAll (setAll O s who) s 0 = O := by
        refine list_getD_ext (by rw [setAll_length, setAll_length]) fun j hj => ?_
        rw [setAll_length, setAll_length] at hj
        rw [setAll_getD 0 s _ hr2 j (by rw [setAll_length]; exact hj)]
        by_cases hm : (j : Int) ∈ s
        · rw [if_pos hm]
          have := hz j hm (by omega) (by omega)
          rw [Int.toNat_natCast] at this
          exact this.symm
        · rw [if_neg hm, setAll_getD who s O h4 j hj, if_neg hm]
      rw [e2]

/-- Two arms that take what is apart may do it in any order. -/
theorem apart_law {o s t : List Int} {x y : Int} (hd : ∀ n ∈ t, n ∉ s) (hp : (takeR o s x).2.2 = 0) (hq : (takeR o t y).2.2 = 0) :
    ∃ P Q U, takeR o s x = (P, 0, 0) ∧ takeR o t y = (Q, 0, 0) ∧ P.length = o.length ∧ Q.length = o.length ∧ takeR P t y = (U, 0, 0) ∧ takeR Q s x = (U, 0, 0) := by
  obtain ⟨e1, h1, h2, h3, h4, h5⟩ := turn_ok (by decide) hp
  obtain ⟨f1, g1, g2, g3, g4, g5⟩ := turn_ok (by decide) hq
  refine ⟨setAll o s x, setAll o t y, setAll (setAll o s x) t y, e1, f1, setAll_length _ _ _, setAll_length _ _ _, ?_, ?_⟩
  · refine turn_mk (setAll_right h4 h1 (armN_own h2)) g2 g3 (by rw [setAll_length]; exact g4) fun n hn => ?_
    have := inRange_mem g4 hn
    rw [setAll_getD x s o h4 n.toNat (by omega), if_neg (by rw [Int.toNat_of_nonneg this.1]; exact hd n hn)]
    exact g5 n hn
  · have e : setAll (setAll o s x) t y = setAll (setAll o t y) s x := by
      refine list_getD_ext (by simp only [setAll_length]) fun j hj => ?_
      simp only [setAll_length] at hj
      rw [setAll_getD y t (setAll o s x) (by rw [setAll_length]; exact g4) j (by rw [setAll_length]; exact hj), setAll_getD x s o h4 j hj, setAll_getD x s (setAll o t y) (by rw [setAll_length]; exact h4) j (by rw [setAll_length]; exact hj), setAll_getD y t o g4 j hj]
      by_cases ha : (j : Int) ∈ t
      · rw [if_pos ha, if_neg (hd _ ha), if_pos ha]
      · by_cases hb : (j : Int) ∈ s <;> simp [ha, hb]
    rw [e]
    refine turn_mk (setAll_right g4 g1 (armN_own g2)) h2 h3 (by rw [setAll_length]; exact h4) fun n hn => ?_
    have := inRange_mem h4 hn
    rw [setAll_getD y t o g4 n.toNat (by omega), if_neg (by rw [Int.toNat_of_nonneg this.1]; exact fun h => hd n h hn)]
    exact h5 n hn

end Go.Proofs.Ytdpinfigjeafpaa
