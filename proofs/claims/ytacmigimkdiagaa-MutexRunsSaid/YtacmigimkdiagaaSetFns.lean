/- Walks of the functions that read slices of numbers: Same, In, Right, place, Has. -/
import Derived.Test.YtacmigimkdiagaaInts
namespace Go.Proofs.Ytacmigimkdiagaa
open Go.RowKit
set_option linter.unusedVariables false
set_option linter.unusedSimpArgs false

/-- Nothing differs below k. -/
def SameYet (l m : List Int) (k : Nat) : Prop := ∀ j, j < k → l.getD j 0 = m.getD j 0
theorem same_of {l m : List Int} (hl : l.length = m.length) (h : SameYet l m l.length) : l = m := by
  apply List.ext_getElem hl
  intro i h1 h2
  have := h i h1
  simpa [h1, h2] using this
theorem SameYet.succ {l m : List Int} {k : Nat} (h : SameYet l m k) (hk : l.getD k 0 = m.getD k 0) : SameYet l m (k + 1) := fun j hj => by
  rcases Nat.lt_succ_iff_lt_or_eq.1 hj with h1 | rfl
  · exact h j h1
  · exact hk

set_option maxHeartbeats 400000 in
theorem ref03_same (l m : List Int) (u v : Value) (w : World) (hl : IntsAt w u l) (hm : IntsAt w v m) :
    Calls Try.prog 21 #[u, v] w fun e w' => e = .returned (.bool (decide (l = m))) ∧ Below w.heap.size w w' := by
  have HL := Lib.hid hl
  have HM := Lib.hid hm
  obtain ⟨a, ca, rfl, hl1, hl2, hl3, hl4⟩ := hl
  obtain ⟨b, cb, rfl, hm1, hm2, hm3, hm4⟩ := hm
  clear hl3 hl4 hm3 hm4
  unfold maxLen at hl2 hm2
  by_cases hlen : l.length = m.length
  · have hne : ((l.length : Int) != m.length) = false := by simp [hlen]
    have HLEN := Lib.hid hlen
    clear hlen
    go_enter Try.func21, Try.ntmps21
    go_wp2
    clear hne
    go_loopw [5] (fun i wr => ∃ k : Nat, k ≤ l.length ∧ i = .int .i64 k ∧ SameYet l m k ∧ Below w.heap.size w wr) (fun i _ => l.length - (intOf i).toNat)
    case atStart => exact ⟨0, Nat.zero_le _, rfl, fun _ h => by omega, Below.refl _ _⟩
    case round =>
      obtain ⟨k, hk, rfl, hs, hbel⟩ := hrel
      have HS := Lib.hid hs
      clear hs
      by_cases hlt : k < l.length
      · obtain ⟨b1, o1, rfl, hb1, c1⟩ := HL.out.get hlt
        obtain ⟨b2, o2, rfl, hb2, c2⟩ := HM.out.get (k := k) (by rw [← HLEN.out]; exact hlt)
        have hlt2 : k < m.length := by rw [← HLEN.out]; exact hlt
        rw [← hbel.cell (p := ⟨b1, _, none⟩) hb1] at c1
        rw [← hbel.cell (p := ⟨b2, _, none⟩) hb2] at c2
        go_wp2
        go_quiet (fail)
        all_goals go_wp2
        · go_ret
          have hx : (l[k] != m[k]) = true := by assumption
          exact ⟨ret_bool (by symm; simp; intro h; subst h; simp at hx), below_drewN hbel _⟩
        · have hx : (l[k] != m[k]) = false := by assumption
          exact ⟨⟨k + 1, hlt, by go_num, HS.out.succ (by simpa [hlt, hlt2] using hx), below_drewN hbel _⟩, by simp [intOf]; omega⟩
      · go_wp2
        go_ret
        obtain rfl : k = l.length := by omega
        exact ⟨ret_bool (by simpa using same_of HLEN.out HS.out), hbel⟩
  · have hne : ((l.length : Int) != m.length) = true := by rw [bne_iff_ne]; omega
    go_enter Try.func21, Try.ntmps21
    go_wp2
    go_ret
    exact ⟨ret_bool (by symm; simp; intro h; exact hlen (by rw [h])), Below.refl _ _⟩

set_option maxHeartbeats 400000 in
theorem ref04_in (l : List Int) (v : Value) (n : Int) (w : World) (hl : IntsAt w v l) :
    Calls Try.prog 25 #[v, .int .i64 n] w fun e w' => e = .returned (.bool (decide (n ∈ l))) ∧ w = w' := by
  have HL := Lib.hid hl
  obtain ⟨a, ca, rfl, hl1, hl2, hl3, hl4⟩ := hl
  clear hl3 hl4
  unfold maxLen at hl2
  go_enter Try.func25, Try.ntmps25
  go_wp2
  go_loop [5] (fun i => ∃ k : Nat, k ≤ l.length ∧ i = .int .i64 k ∧ NoneYet (fun j => l.getD j 0 == n) k) (fun i => l.length - (intOf i).toNat)
  case atStart => exact ⟨0, Nat.zero_le _, rfl, NoneYet.zero _⟩
  case round =>
    obtain ⟨k, hk, rfl, hs⟩ := hrel
    by_cases hlt : k < l.length
    · obtain ⟨b1, o1, rfl, hb1, c1⟩ := HL.out.get hlt
      have hg : l.getD k 0 = l[k] := by simp [hlt]
      have HG := Lib.hid hg
      clear hg
      go_wp2
      · have hx : (l[k] == n) = true := by assumption
        go_ret
        refine ⟨ret_bool ?_, rfl⟩
        symm
        rw [decide_eq_true_iff]
        have : l[k] = n := by simpa using hx
        rw [← this]
        exact List.getElem_mem hlt
      · have hx : (l[k] == n) = false := by assumption
        exact ⟨⟨k + 1, hlt, by go_num, hs.succ (by rw [HG.out]; exact hx)⟩, by simp [intOf]; omega⟩
    · go_wp2
      go_ret
      obtain rfl : k = l.length := by omega
      refine ⟨ret_bool ?_, rfl⟩
      symm
      rw [decide_eq_false_iff_not]
      intro hmem
      obtain ⟨j, hj, rfl⟩ := List.getElem_of_mem hmem
      have := hs j hj
      simp [hj] at this

/-- Does a list rise? -/
def riseB : List Int → Bool
  | [] => true
  | [_] => true
  | a :: b :: r => decide (a < b) && riseB (b :: r)
theorem riseB_iff (l : List Int) : riseB l = true ↔ ∀ i, i + 1 < l.length → l.getD i 0 < l.getD (i + 1) 0 := by
  induction l with
  | nil => simp [riseB]
  | cons a r ih =>
    cases r with
    | nil => simp [riseB]
    | cons b r =>
      rw [riseB, Bool.and_eq_true, ih, decide_eq_true_iff]
      constructor
      · rintro ⟨h1, h2⟩ i hi
        cases i with
        | zero => simpa using h1
        | succ i => simpa using h2 i (by simpa using hi)
      · intro h
        refine ⟨by simpa using h 0 (by simp), fun i hi => ?_⟩
        simpa using h (i + 1) (by simpa using hi)

/-- It rises below k. -/
def RiseYet (l : List Int) (k : Nat) : Prop := ∀ i, i + 1 < k → l.getD i 0 < l.getD (i + 1) 0
theorem RiseYet.succ {l : List Int} {k : Nat} (h : RiseYet l k) (hk : l.getD (k - 1) 0 < l.getD k 0) : RiseYet l (k + 1) := fun i hi => by
  rcases Nat.lt_or_ge (i + 1) k with h1 | h1
  · exact h i h1
  · obtain rfl : k = i + 1 := by omega
    exact hk

set_option maxHeartbeats 400000 in
theorem sets_right (l : List Int) (v : Value) (w : World) (hl : IntsAt w v l) :
    Calls Try.prog 40 #[v] w fun e w' => e = .returned (.bool (riseB l)) ∧ Below w.heap.size w w' := by
  have HL := Lib.hid hl
  obtain ⟨a, ca, rfl, hl1, hl2, hl3, hl4⟩ := hl
  clear hl3 hl4
  unfold maxLen at hl2
  go_enter Try.func40, Try.ntmps40
  go_wp2
  go_loopw [3] (fun i wr => ∃ k : Nat, 1 ≤ k ∧ (k ≤ l.length ∨ k = 1) ∧ i = .int .i64 k ∧ RiseYet l k ∧ Below w.heap.size w wr) (fun i _ => l.length - (intOf i).toNat)
  case atStart => exact ⟨1, Nat.le_refl _, .inr rfl, rfl, fun _ h => by omega, Below.refl _ _⟩
  case round =>
    obtain ⟨k, hk1, hk, rfl, hs, hbel⟩ := hrel
    have HS := Lib.hid hs
    clear hs
    by_cases hlt : k < l.length
    · obtain ⟨b1, o1, rfl, hb1, c1⟩ := HL.out.get hlt
      obtain ⟨b2, o2, hb12, hb2, c2⟩ := HL.out.get (k := k - 1) (by omega)
      simp only [Option.some.injEq, Addr.mk.injEq, and_true] at hb12
      obtain ⟨rfl, rfl⟩ := hb12
      rw [← hbel.cell (p := ⟨b1, _, none⟩) hb1] at c1 c2
      clear hk
      obtain ⟨x, hx⟩ : ∃ x, l.getD k 0 = x := ⟨_, rfl⟩
      obtain ⟨y, hy⟩ : ∃ y, l.getD (k - 1) 0 = y := ⟨_, rfl⟩
      rw [hx] at c1
      rw [hy] at c2
      have HX := Lib.hid hx
      have HY := Lib.hid hy
      clear hx hy
      have hkk : ((k : Int) - 1).toNat = k - 1 := by omega
      have hk0 : (0 : Int) ≤ (k : Int) - 1 := by omega
      go_wp2
      go_quiet (fail)
      all_goals go_wp2
      · go_ret
        refine ⟨ret_bool ?_, below_drewN hbel _⟩
        symm
        rw [Bool.eq_false_iff]
        intro h
        have := (riseB_iff l).1 h (k - 1) (by omega)
        rw [show k - 1 + 1 = k from by omega, HX.out, HY.out] at this
        omega
      · exact ⟨⟨k + 1, by omega, .inl hlt, by go_num, HS.out.succ (by rw [HX.out, HY.out]; assumption), below_drewN hbel _⟩, by simp [intOf]; omega⟩
    · go_wp2
      go_ret
      refine ⟨ret_bool ?_, hbel⟩
      symm
      rw [riseB_iff]
      intro i hi
      exact HS.out i (by omega)

set_option maxHeartbeats 400000 in
theorem ref04_right (l : List Int) (v : Value) (w : World) (hl : IntsAt w v l) :
    Calls Try.prog 43 #[v] w fun e w' => e = .returned (.bool (riseB l)) ∧ Below w.heap.size w w' := by
  have HL := Lib.hid hl
  obtain ⟨a, ca, rfl, hl1, hl2, hl3, hl4⟩ := hl
  clear hl3 hl4
  unfold maxLen at hl2
  go_enter Try.func43, Try.ntmps43
  go_wp2
  go_loopw [3] (fun i wr => ∃ k : Nat, 1 ≤ k ∧ (k ≤ l.length ∨ k = 1) ∧ i = .int .i64 k ∧ RiseYet l k ∧ Below w.heap.size w wr) (fun i _ => l.length - (intOf i).toNat)
  case atStart => exact ⟨1, Nat.le_refl _, .inr rfl, rfl, fun _ h => by omega, Below.refl _ _⟩
  case round =>
    obtain ⟨k, hk1, hk, rfl, hs, hbel⟩ := hrel
    have HS := Lib.hid hs
    clear hs
    by_cases hlt : k < l.length
    · obtain ⟨b1, o1, rfl, hb1, c1⟩ := HL.out.get hlt
      obtain ⟨b2, o2, hb12, hb2, c2⟩ := HL.out.get (k := k - 1) (by omega)
      simp only [Option.some.injEq, Addr.mk.injEq, and_true] at hb12
      obtain ⟨rfl, rfl⟩ := hb12
      rw [← hbel.cell (p := ⟨b1, _, none⟩) hb1] at c1 c2
      clear hk
      obtain ⟨x, hx⟩ : ∃ x, l.getD k 0 = x := ⟨_, rfl⟩
      obtain ⟨y, hy⟩ : ∃ y, l.getD (k - 1) 0 = y := ⟨_, rfl⟩
      rw [hx] at c1
      rw [hy] at c2
      have HX := Lib.hid hx
      have HY := Lib.hid hy
      clear hx hy
      have hkk : ((k : Int) - 1).toNat = k - 1 := by omega
      have hk0 : (0 : Int) ≤ (k : Int) - 1 := by omega
      go_wp2
      go_quiet (fail)
      all_goals go_wp2
      · go_ret
        refine ⟨ret_bool ?_, below_drewN hbel _⟩
        symm
        rw [Bool.eq_false_iff]
        intro h
        have := (riseB_iff l).1 h (k - 1) (by omega)
        rw [show k - 1 + 1 = k from by omega, HX.out, HY.out] at this
        omega
      · exact ⟨⟨k + 1, by omega, .inl hlt, by go_num, HS.out.succ (by rw [HX.out, HY.out]; assumption), below_drewN hbel _⟩, by simp [intOf]; omega⟩
    · go_wp2
      go_ret
      refine ⟨ret_bool ?_, hbel⟩
      symm
      rw [riseB_iff]
      intro i hi
      exact HS.out i (by omega)

theorem rise_lt {l : List Int} (h : riseB l = true) {i j : Nat} (hij : i < j) (hj : j < l.length) : l.getD i 0 < l.getD j 0 := by
  have hr := (riseB_iff l).1 h
  induction j with
  | zero => omega
  | succ j ih =>
    rcases Nat.lt_succ_iff_lt_or_eq.1 hij with h1 | rfl
    · exact Int.lt_trans (ih h1 (by omega)) (hr j hj)
    · exact hr i hj
theorem rise_le {l : List Int} (h : riseB l = true) {i j : Nat} (hij : i ≤ j) (hj : j < l.length) : l.getD i 0 ≤ l.getD j 0 := by
  rcases Nat.eq_or_lt_of_le hij with rfl | h1
  · exact Int.le_refl _
  · exact Int.le_of_lt (rise_lt h h1 hj)

/-- Where a number stands in a set, or would stand. -/
def placeN (l : List Int) (n : Int) (p : Nat) : Prop := p ≤ l.length ∧ (∀ i, i < p → l.getD i 0 < n) ∧ ∀ i, p ≤ i → i < l.length → n ≤ l.getD i 0

set_option maxHeartbeats 400000 in
theorem sets_place (l : List Int) (v : Value) (n : Int) (w : World) (hl : IntsAt w v l) (hr : riseB l = true) :
    Calls Try.prog 64 #[v, .int .i64 n] w fun e w' => (∃ p : Nat, placeN l n p ∧ e = .returned (.int .i64 p)) ∧ w = w' := by
  have HL := Lib.hid hl
  have HR := Lib.hid hr
  clear hr
  obtain ⟨a, ca, rfl, hl1, hl2, hl3, hl4⟩ := hl
  clear hl3 hl4
  unfold maxLen at hl2
  go_enter Try.func64, Try.ntmps64
  go_wp2
  go_loop [5, 6] (fun lo hi => ∃ p q : Nat, p ≤ q ∧ q ≤ l.length ∧ lo = .int .i64 p ∧ hi = .int .i64 q ∧ Hid ((∀ i, i < p → l.getD i 0 < n) ∧ ∀ i, q ≤ i → i < l.length → n ≤ l.getD i 0)) (fun lo hi => (intOf hi).toNat - (intOf lo).toNat)
  case atStart => exact ⟨0, l.length, Nat.zero_le _, Nat.le_refl _, rfl, rfl, fun i h => by omega, fun i h1 h2 => by omega⟩
  case round =>
    obtain ⟨p, q, hpq, hq, rfl, rfl, hs⟩ := hrel
    by_cases hlt : p < q
    · have hmid : p + (q - p) / 2 < l.length := by omega
      obtain ⟨b1, o1, rfl, hb1, c1⟩ := HL.out.get hmid
      obtain ⟨x, hx⟩ : ∃ x, l.getD (p + (q - p) / 2) 0 = x := ⟨_, rfl⟩
      rw [hx] at c1
      have HX := Lib.hid hx
      clear hx
      go_wp2
      · refine ⟨⟨p + (q - p) / 2 + 1, q, by omega, hq, congrArg (Value.int .i64) (by omega), rfl, fun i hi => ?_, hs.out.2⟩, by simp [intOf]; omega⟩
        have := rise_le HR.out (i := i) (j := p + (q - p) / 2) (by omega) hmid
        rw [HX.out] at this
        omega
      · refine ⟨⟨p, p + (q - p) / 2, by omega, by omega, rfl, congrArg (Value.int .i64) (by omega), hs.out.1, fun i hi1 hi2 => ?_⟩, by simp [intOf]; omega⟩
        have := rise_le HR.out (i := p + (q - p) / 2) (j := i) hi1 hi2
        rw [HX.out] at this
        omega
    · go_wp2
      go_ret
      obtain rfl : p = q := by omega
      exact ⟨⟨p, ⟨hq, hs.out.1, hs.out.2⟩, rfl⟩, rfl⟩

theorem place_mem {l : List Int} {n : Int} {p : Nat} (hr : riseB l = true) (h : placeN l n p) (hp : p < l.length) : n ∈ l ↔ l.getD p 0 = n := by
  constructor
  · intro hm
    obtain ⟨j, hj, rfl⟩ := List.getElem_of_mem hm
    have e : l.getD j 0 = l[j] := by simp [hj]
    rcases Nat.lt_or_ge j p with h1 | h1
    · have := h.2.1 j h1
      rw [e] at this
      omega
    · have h2 := h.2.2 p (Nat.le_refl _) hp
      have e2 : l.getD p 0 = l[p] := by simp [hp]
      rcases Nat.eq_or_lt_of_le h1 with rfl | h3
      · exact e
      · have h4 := rise_lt hr h3 hj
        rw [e] at h4
        omega
  · intro e
    rw [← e]
    simp [hp]
theorem place_not_mem {l : List Int} {n : Int} {p : Nat} (h : placeN l n p) (hp : ¬ p < l.length) : n ∉ l := by
  intro hm
  obtain ⟨j, hj, rfl⟩ := List.getElem_of_mem hm
  have e : l.getD j 0 = l[j] := by simp [hj]
  have := h.2.1 j (by omega)
  rw [e] at this
  omega

set_option maxHeartbeats 400000 in
theorem sets_has (l : List Int) (v : Value) (n : Int) (w : World) (hl : IntsAt w v l) (hr : riseB l = true) :
    Calls Try.prog 59 #[v, .int .i64 n] w fun e w' => e = .returned (.bool (decide (n ∈ l))) ∧ w = w' := by
  have HL := Lib.hid hl
  have HR := Lib.hid hr
  clear hr
  obtain ⟨a, ca, rfl, hl1, hl2, hl3, hl4⟩ := hl
  clear hl3 hl4
  unfold maxLen at hl2
  go_enter Try.func59, Try.ntmps59
  go_wp2_with fail
  refine (sets_place l _ _ _ HL.out HR.out).mono ?_
  rintro e w' ⟨⟨p, hp, rfl⟩, rfl⟩
  have HP := Lib.hid hp
  have hpl := hp.1
  clear hp
  by_cases hlt : p < l.length
  · obtain ⟨b1, o1, rfl, hb1, c1⟩ := HL.out.get hlt
    obtain ⟨x, hx⟩ : ∃ x, l.getD p 0 = x := ⟨_, rfl⟩
    rw [hx] at c1
    have HX := Lib.hid hx
    clear hx
    go_wp2
    go_ret
    refine ⟨ret_bool ?_, rfl⟩
    rw [Bool.eq_iff_iff, decide_eq_true_iff, place_mem HR.out HP.out hlt, HX.out, beq_iff_eq]
  · go_wp2
    go_ret
    exact ⟨ret_bool (by symm; rw [decide_eq_false_iff_not]; exact place_not_mem HP.out hlt), rfl⟩

end Go.Proofs.Ytacmigimkdiagaa
