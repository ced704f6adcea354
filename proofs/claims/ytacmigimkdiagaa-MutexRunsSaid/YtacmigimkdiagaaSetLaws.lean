/- Plain laws of sets as rising lists: no program in sight. -/
import Derived.Test.YtacmigimkdiagaaSetAlong
namespace Go.Proofs.Ytacmigimkdiagaa
set_option linter.unusedVariables false
set_option linter.unusedSimpArgs false

theorem rise_pairwise (l : List Int) : riseB l = true ↔ l.Pairwise (· < ·) := by
  induction l with
  | nil => simp [riseB]
  | cons a r ih =>
    cases r with
    | nil => simp [riseB]
    | cons b r =>
      rw [riseB, Bool.and_eq_true, ih, decide_eq_true_iff]
      constructor
      · rintro ⟨h1, h2⟩
        refine List.pairwise_cons.2 ⟨fun x hx => ?_, h2⟩
        rcases List.mem_cons.1 hx with rfl | hx
        · exact h1
        · exact Int.lt_trans h1 ((List.pairwise_cons.1 h2).1 x hx)
      · intro h
        obtain ⟨h1, h2⟩ := List.pairwise_cons.1 h
        exact ⟨h1 b (by simp), h2⟩

theorem pairwise_ext : ∀ {a b : List Int}, a.Pairwise (· < ·) → b.Pairwise (· < ·) → (∀ x, x ∈ a ↔ x ∈ b) → a = b := by
  intro a
  induction a with
  | nil =>
    intro b _ _ h
    cases b with
    | nil => rfl
    | cons y s => exact absurd ((h y).2 (by simp)) (by simp)
  | cons x r ih =>
    intro b ha hb h
    cases b with
    | nil => exact absurd ((h x).1 (by simp)) (by simp)
    | cons y s =>
      obtain ⟨ha1, ha2⟩ := List.pairwise_cons.1 ha
      obtain ⟨hb1, hb2⟩ := List.pairwise_cons.1 hb
      have hxy : x = y := by
        have h1 := (h x).1 (by simp)
        have h2 := (h y).2 (by simp)
        rcases List.mem_cons.1 h1 with e | h1
        · exact e
        · rcases List.mem_cons.1 h2 with e | h2
          · exact e.symm
          · have := hb1 x h1
            have := ha1 y h2
            omega
      subst hxy
      refine congrArg _ (ih ha2 hb2 fun z => ?_)
      constructor
      · intro hz
        rcases List.mem_cons.1 ((h z).1 (List.mem_cons_of_mem _ hz)) with e | h1
        · have := ha1 z hz
          omega
        · exact h1
      · intro hz
        rcases List.mem_cons.1 ((h z).2 (List.mem_cons_of_mem _ hz)) with e | h1
        · have := hb1 z hz
          omega
        · exact h1
theorem rise_ext {a b : List Int} (ha : riseB a = true) (hb : riseB b = true) (h : ∀ x, x ∈ a ↔ x ∈ b) : a = b := pairwise_ext ((rise_pairwise a).1 ha) ((rise_pairwise b).1 hb) h

theorem mem_putL (s : List Int) (n x : Int) : x ∈ putL s n ↔ x ∈ s ∨ x = n := by
  induction s with
  | nil => simp [putL]
  | cons a r ih =>
    rw [putL]
    split
    · simp [ih, or_assoc]
    · split
      · next h => subst h; simp; intro h; exact .inl h
      · simp; constructor
        · rintro (h | h | h)
          · exact .inr h
          · exact .inl (.inl h)
          · exact .inl (.inr h)
        · rintro ((h | h) | h)
          · exact .inr (.inl h)
          · exact .inr (.inr h)
          · exact .inl h
theorem putL_rise {s : List Int} (hs : s.Pairwise (· < ·)) (n : Int) : (putL s n).Pairwise (· < ·) := by
  induction s with
  | nil => simp [putL]
  | cons a r ih =>
    obtain ⟨h1, h2⟩ := List.pairwise_cons.1 hs
    rw [putL]
    split
    · next h =>
      refine List.pairwise_cons.2 ⟨fun x hx => ?_, ih h2⟩
      rcases (mem_putL r n x).1 hx with hx | rfl
      · exact h1 x hx
      · exact h
    · split
      · exact hs
      · refine List.pairwise_cons.2 ⟨fun x hx => ?_, hs⟩
        rcases List.mem_cons.1 hx with rfl | hx
        · omega
        · have := h1 x hx
          omega
theorem mem_foldl_putL (m l : List Int) (x : Int) : x ∈ m.foldl putL l ↔ x ∈ l ∨ x ∈ m := by
  induction m generalizing l with
  | nil => simp
  | cons a r ih => simp [ih, mem_putL, or_assoc]
theorem foldl_putL_rise (m : List Int) {l : List Int} (hl : l.Pairwise (· < ·)) : (m.foldl putL l).Pairwise (· < ·) := by
  induction m generalizing l with
  | nil => exact hl
  | cons a r ih => exact ih (putL_rise hl a)
theorem mem_fromL (l : List Int) (x : Int) : x ∈ fromL l ↔ x ∈ l := by simp [fromL, mem_foldl_putL]
theorem fromL_pairwise (l : List Int) : (fromL l).Pairwise (· < ·) := foldl_putL_rise l List.Pairwise.nil
theorem fromL_rise (l : List Int) : riseB (fromL l) = true := (rise_pairwise _).2 (fromL_pairwise l)
theorem mem_eitherL (a b : List Int) (x : Int) : x ∈ eitherL a b ↔ x ∈ a ∨ x ∈ b := mem_foldl_putL b a x
theorem eitherL_rise {a : List Int} (b : List Int) (ha : riseB a = true) : riseB (eitherL a b) = true := (rise_pairwise _).2 (foldl_putL_rise b ((rise_pairwise _).1 ha))
theorem mem_lessL (a b : List Int) (x : Int) : x ∈ lessL a b ↔ x ∈ a ∧ x ∉ b := by simp [lessL]
theorem mem_bothL (a b : List Int) (x : Int) : x ∈ bothL a b ↔ x ∈ a ∧ x ∈ b := by simp [bothL]
theorem filter_rise {a : List Int} (p : Int → Bool) (ha : riseB a = true) : riseB (a.filter p) = true := (rise_pairwise _).2 (((rise_pairwise _).1 ha).filter p)
theorem lessL_rise {a : List Int} (b : List Int) (ha : riseB a = true) : riseB (lessL a b) = true := filter_rise _ ha
theorem bothL_rise {a : List Int} (b : List Int) (ha : riseB a = true) : riseB (bothL a b) = true := filter_rise _ ha

/-- What is taken of two rising lists. -/
theorem mem_alongL (f s t : Bool) (a b : List Int) (ha : a.Pairwise (· < ·)) (hb : b.Pairwise (· < ·)) (x : Int) :
    x ∈ alongL f s t a b ↔ (x ∈ a ∧ x ∉ b ∧ f = true) ∨ (x ∈ b ∧ x ∉ a ∧ s = true) ∨ (x ∈ a ∧ x ∈ b ∧ t = true) := by
  induction a, b using alongL.induct with
  | case1 => simp [alongL]
  | case2 a ar ih =>
    obtain ⟨h1, h2⟩ := List.pairwise_cons.1 ha
    rw [alongL, List.mem_append, ih h2 hb]
    cases f <;> simp
  | case3 b br ih =>
    obtain ⟨h1, h2⟩ := List.pairwise_cons.1 hb
    rw [alongL, List.mem_append, ih ha h2]
    cases s <;> simp
  | case4 a ar b br h ih =>
    obtain ⟨h1, h2⟩ := List.pairwise_cons.1 ha
    obtain ⟨h3, h4⟩ := List.pairwise_cons.1 hb
    rw [alongL, if_pos h, List.mem_append, ih h2 hb]
    have hax : a ∉ b :: br := by
      intro hm
      rcases List.mem_cons.1 hm with e | hm
      · omega
      · have := h3 a hm; omega
    have haa : a ∉ ar := fun hm => by have := h1 a hm; omega
    by_cases hxa : x = a
    · subst hxa
      cases f <;> simp [hax, haa]
    · have e1 : x ∈ a :: ar ↔ x ∈ ar := by simp [hxa]
      have e2 : x ∈ (if f = true then [a] else []) ↔ False := by cases f <;> simp [hxa]
      rw [e1, e2, false_or]
  | case5 a ar b br h h' ih =>
    obtain ⟨h1, h2⟩ := List.pairwise_cons.1 ha
    obtain ⟨h3, h4⟩ := List.pairwise_cons.1 hb
    rw [alongL, if_neg h, if_pos h', List.mem_append, ih ha h4]
    have hax : b ∉ a :: ar := by
      intro hm
      rcases List.mem_cons.1 hm with e | hm
      · omega
      · have := h1 b hm; omega
    have haa : b ∉ br := fun hm => by have := h3 b hm; omega
    by_cases hxa : x = b
    · subst hxa
      cases s <;> simp [hax, haa]
    · have e1 : x ∈ b :: br ↔ x ∈ br := by simp [hxa]
      have e2 : x ∈ (if s = true then [b] else []) ↔ False := by cases s <;> simp [hxa]
      rw [e1, e2, false_or]
  | case6 a ar b br h h' ih =>
    obtain ⟨h1, h2⟩ := List.pairwise_cons.1 ha
    obtain ⟨h3, h4⟩ := List.pairwise_cons.1 hb
    obtain rfl : a = b := by omega
    rw [alongL, if_neg h, if_neg h', List.mem_append, ih h2 h4]
    have haa : a ∉ ar := fun hm => by have := h1 a hm; omega
    have hbb : a ∉ br := fun hm => by have := h3 a hm; omega
    by_cases hxa : x = a
    · subst hxa
      cases t <;> simp [haa, hbb]
    · have e1 : x ∈ a :: ar ↔ x ∈ ar := by simp [hxa]
      have e3 : x ∈ a :: br ↔ x ∈ br := by simp [hxa]
      have e2 : x ∈ (if t = true then [a] else []) ↔ False := by cases t <;> simp [hxa]
      rw [e1, e2, e3, false_or]
theorem alongL_pairwise (f s t : Bool) (a b : List Int) (ha : a.Pairwise (· < ·)) (hb : b.Pairwise (· < ·)) : (alongL f s t a b).Pairwise (· < ·) := by
  induction a, b using alongL.induct with
  | case1 => simp [alongL]
  | case2 a ar ih =>
    obtain ⟨h1, h2⟩ := List.pairwise_cons.1 ha
    rw [alongL, List.pairwise_append]
    refine ⟨by cases f <;> simp, ih h2 hb, fun x hx y hy => ?_⟩
    have hxa : x = a := by cases f <;> simp at hx; exact hx
    rcases (mem_alongL f s t ar [] h2 hb y).1 hy with h | h | h
    · rw [hxa]; exact h1 y h.1
    · simp at h
    · simp at h
  | case3 b br ih =>
    obtain ⟨h1, h2⟩ := List.pairwise_cons.1 hb
    rw [alongL, List.pairwise_append]
    refine ⟨by cases s <;> simp, ih ha h2, fun x hx y hy => ?_⟩
    have hxa : x = b := by cases s <;> simp at hx; exact hx
    rcases (mem_alongL f s t [] br ha h2 y).1 hy with h | h | h
    · simp at h
    · rw [hxa]; exact h1 y h.1
    · simp at h
  | case4 a ar b br h ih =>
    obtain ⟨h1, h2⟩ := List.pairwise_cons.1 ha
    obtain ⟨h3, h4⟩ := List.pairwise_cons.1 hb
    rw [alongL, if_pos h, List.pairwise_append]
    refine ⟨by cases f <;> simp, ih h2 hb, fun x hx y hy => ?_⟩
    have hxa : x = a := by cases f <;> simp at hx; exact hx
    have hb' : ∀ z ∈ b :: br, a < z := fun z hz => by
      rcases List.mem_cons.1 hz with rfl | hz
      · exact h
      · have := h3 z hz; omega
    rw [hxa]
    rcases (mem_alongL f s t ar (b :: br) h2 hb y).1 hy with h | h | h
    · exact h1 y h.1
    · exact hb' y h.1
    · exact h1 y h.1
  | case5 a ar b br h h' ih =>
    obtain ⟨h1, h2⟩ := List.pairwise_cons.1 ha
    obtain ⟨h3, h4⟩ := List.pairwise_cons.1 hb
    rw [alongL, if_neg h, if_pos h', List.pairwise_append]
    refine ⟨by cases s <;> simp, ih ha h4, fun x hx y hy => ?_⟩
    have hxa : x = b := by cases s <;> simp at hx; exact hx
    have hb' : ∀ z ∈ a :: ar, b < z := fun z hz => by
      rcases List.mem_cons.1 hz with rfl | hz
      · exact h'
      · have := h1 z hz; omega
    rw [hxa]
    rcases (mem_alongL f s t (a :: ar) br ha h4 y).1 hy with h | h | h
    · exact hb' y h.1
    · exact h3 y h.1
    · exact hb' y h.1
  | case6 a ar b br h h' ih =>
    obtain ⟨h1, h2⟩ := List.pairwise_cons.1 ha
    obtain ⟨h3, h4⟩ := List.pairwise_cons.1 hb
    obtain rfl : a = b := by omega
    rw [alongL, if_neg h, if_neg h', List.pairwise_append]
    refine ⟨by cases t <;> simp, ih h2 h4, fun x hx y hy => ?_⟩
    have hxa : x = a := by cases t <;> simp at hx; exact hx
    rw [hxa]
    rcases (mem_alongL f s t ar br h2 h4 y).1 hy with h | h | h
    · exact h1 y h.1
    · exact h3 y h.1
    · exact h1 y h.1
theorem alongL_rise (f s t : Bool) {a b : List Int} (ha : riseB a = true) (hb : riseB b = true) : riseB (alongL f s t a b) = true := (rise_pairwise _).2 (alongL_pairwise f s t a b ((rise_pairwise _).1 ha) ((rise_pairwise _).1 hb))
theorem mem_along (f s t : Bool) {a b : List Int} (ha : riseB a = true) (hb : riseB b = true) (x : Int) :
    x ∈ alongL f s t a b ↔ (x ∈ a ∧ x ∉ b ∧ f = true) ∨ (x ∈ b ∧ x ∉ a ∧ s = true) ∨ (x ∈ a ∧ x ∈ b ∧ t = true) := mem_alongL f s t a b ((rise_pairwise _).1 ha) ((rise_pairwise _).1 hb) x
theorem along_either {a b : List Int} (ha : riseB a = true) (hb : riseB b = true) : alongL true true true a b = eitherL a b :=
  rise_ext (alongL_rise _ _ _ ha hb) (eitherL_rise b ha) fun x => by rw [mem_along _ _ _ ha hb, mem_eitherL]; by_cases h1 : x ∈ a <;> by_cases h2 : x ∈ b <;> simp [h1, h2]
theorem along_bothL {a b : List Int} (ha : riseB a = true) (hb : riseB b = true) : alongL false false true a b = bothL a b :=
  rise_ext (alongL_rise _ _ _ ha hb) (bothL_rise b ha) fun x => by rw [mem_along _ _ _ ha hb, mem_bothL]; by_cases h1 : x ∈ a <;> by_cases h2 : x ∈ b <;> simp [h1, h2]
theorem along_less {a b : List Int} (ha : riseB a = true) (hb : riseB b = true) : alongL true false false a b = lessL a b :=
  rise_ext (alongL_rise _ _ _ ha hb) (lessL_rise b ha) fun x => by rw [mem_along _ _ _ ha hb, mem_lessL]; by_cases h1 : x ∈ a <;> by_cases h2 : x ∈ b <;> simp [h1, h2]
theorem from_halves (a b : List Int) : eitherL (fromL a) (fromL b) = fromL (a ++ b) :=
  rise_ext (eitherL_rise _ (fromL_rise a)) (fromL_rise _) fun x => by rw [mem_eitherL, mem_fromL, mem_fromL, mem_fromL, List.mem_append]

theorem putL_len_mem {s : List Int} (hs : s.Pairwise (· < ·)) (n : Int) : (putL s n).length = if n ∈ s then s.length else s.length + 1 := by
  induction s with
  | nil => simp [putL]
  | cons a r ih =>
    obtain ⟨h1, h2⟩ := List.pairwise_cons.1 hs
    rw [putL]
    by_cases ha : a < n
    · rw [if_pos ha, List.length_cons, ih h2]
      have e : n ∈ a :: r ↔ n ∈ r := by
        rw [List.mem_cons]
        constructor
        · rintro (rfl | h)
          · omega
          · exact h
        · exact .inr
      by_cases hn : n ∈ r <;> simp [hn, e]
    · rw [if_neg ha]
      by_cases hb : a = n
      · simp [hb]
      · have hn : n ∉ a :: r := by
          intro h
          rcases List.mem_cons.1 h with e | h
          · exact hb e.symm
          · have := h1 n h
            omega
        rw [if_neg hb, if_neg hn]
        simp

end Go.Proofs.Ytacmigimkdiagaa
