/- Walks of the functions of package tip, and of its reference, that go along a list of tips. -/
import Derived.Test.YtdpinfigjeafpaaTipFns
namespace Go.Proofs.Ytdpinfigjeafpaa
open Go.RowKit
set_option linter.unusedVariables false
set_option linter.unusedSimpArgs false

def tipWanted (l : List (Int × Int)) (from_ s b : Int) (i : Nat) : Bool := decide (from_ ≤ (i : Int)) && ((l.getD i (0, 0)).1 == s && (l.getD i (0, 0)).2 == b) && tipRightB (l.getD i (0, 0)).1 (l.getD i (0, 0)).2

set_option maxHeartbeats 400000 in
theorem tip_find (l : List (Int × Int)) (v : Value) (from_ s b : Int) (w : World) (hl : TipsAt w v l) :
    Calls Try.prog 58 #[v, .int .i64 from_, .agg #[.int .i64 s, .int .i64 b]] w
      fun r w' => r = .returned (idxVal (firstIdx (tipWanted l from_ s b) l.length)) ∧ Below w.heap.size w w' := by
  obtain ⟨a, cap, rfl, hm, hcells⟩ := hl
  have HC := Lib.hid hcells
  clear hcells
  unfold maxLen at hm
  go_enter Try.func58, Try.ntmps58
  go_wp2
  go_step3
  go_wp2
  go_step3
  go_wp2
  go_loopw [8, 9, 14] (fun p q i wr => ∃ k : Nat, k ≤ l.length ∧ i = .int .i64 k ∧ p = .int .i64 0 ∧ q = .bool false ∧ NoneYet (tipWanted l from_ s b) k ∧ Below w.heap.size w wr ∧ w.heap.size < wr.heap.size ∧ wr.cell? ⟨w.heap.size, 0, none⟩ = some (.int .i64 s) ∧ wr.cell? ⟨w.heap.size, 1, none⟩ = some (.int .i64 b)) (fun _ _ i _ => l.length - (intOf i).toNat)
  case atStart => exact ⟨0, Nat.zero_le _, rfl, rfl, rfl, NoneYet.zero _, (Below.refl _ _).alloc (Nat.le_refl _) _, by simp, by go_simp, by go_simp⟩
  case round =>
    obtain ⟨k, hk, rfl, rfl, rfl, hnone, hbel, hsz, hc0, hc1⟩ := hrel
    by_cases hlt : k < l.length
    · obtain ⟨b0, off, rfl, hb0, hi⟩ := HC.out (by intro h; simp [h] at hlt)
      obtain ⟨hi0, hi1⟩ := hi k hlt
      rw [← hbel.cell (p := ⟨b0, _, none⟩) hb0] at hi0 hi1
      clear hi
      obtain ⟨s1, b1, hget⟩ : ∃ s1 b1, l.getD k (0, 0) = (s1, b1) := ⟨_, _, rfl⟩
      rw [hget] at hi0 hi1
      have HG := Lib.hid hget
      clear hget
      cases hW : tipWanted l from_ s b k with
      | true =>
        have HW := Lib.hid hW
        have hW2 := hW
        unfold tipWanted at hW2
        rw [HG.out] at hW2
        simp at hW2
        obtain ⟨⟨hfr, rfl, rfl⟩, hR⟩ := hW2
        clear hW
        go_wp2_with (first | (go_at_call 18; refine (tip_right _ _ _).mono ?_; rintro e w1 ⟨rfl, hb⟩; obtain ⟨hc, hf⟩ := bcell hb))
        rw [Exit.noGoto_ret]
        go_ret2
        exact ⟨by rw [firstIdx_some hnone hlt HW.out]; rfl, (hbel.alloc (Nat.le_of_lt hsz) _).trans (hb.mono (by simp; omega))⟩
      | false =>
        have HW := Lib.hid hW
        clear hW
        go_wp2_with (first | (go_at_call 18; refine (tip_right _ _ _).mono ?_; rintro e w1 ⟨rfl, hb⟩; obtain ⟨hc, hf⟩ := bcell hb))
        case roundEnd => 
          have h1 := (hbel.alloc (Nat.le_of_lt hsz) (Obj.cells #[Value.int IntKind.i64 s, Value.int IntKind.i64 b] 23)).trans (hb.mono (by simp; omega))
          have h2 := h1.size
          exact ⟨⟨k + 1, hlt, by go_num, rfl, rfl, hnone.succ HW.out, h1, by have := hb.size; simp at this; omega, by go_simp, by go_simp⟩, by simp [intOf]; omega⟩
        · exfalso
          have := HW.out
          unfold tipWanted at this
          rw [HG.out] at this
          simp_all
        all_goals exact ⟨⟨k + 1, hlt, by go_num, rfl, rfl, hnone.succ HW.out, hbel.alloc (Nat.le_of_lt hsz) _, by simp; omega, by go_simp, by go_simp⟩, by simp [intOf]; omega⟩
    · go_wp2
      rw [Exit.noGoto_ret]
      go_ret2
      obtain rfl : k = l.length := by omega
      exact ⟨by rw [firstIdx_none hnone]; rfl, hbel⟩

set_option maxHeartbeats 400000 in
theorem tip_next (l : List (Int × Int)) (v : Value) (from_ : Int) (w : World) (hl : TipsAt w v l) :
    Calls Try.prog 20 #[v, .int .i64 from_] w
      fun r w' => r = .returned (idxVal (firstIdx (tipWanted l from_ 1 0) l.length)) ∧ Below w.heap.size w w' := by
  go_enter Try.func20, Try.ntmps20
  go_wp2_with (go_at_call 58; refine (tip_find l v _ _ _ _ hl).mono ?_; rintro e w1 ⟨rfl, hb⟩; simp only [idxVal])
  go_ret2
  exact ⟨rfl, hb⟩

set_option maxHeartbeats 400000 in
theorem tip_held (l : List (Int × Int)) (v : Value) (n : Int) (w : World) (hl : TipsAt w v l) :
    Calls Try.prog 22 #[v, .int .i64 n] w
      fun r w' => r = .returned (idxVal (firstIdx (tipWanted l 0 2 n) l.length)) ∧ Below w.heap.size w w' := by
  go_enter Try.func22, Try.ntmps22
  go_wp2_with (go_at_call 58; refine (tip_find l v _ _ _ _ hl).mono ?_; rintro e w1 ⟨rfl, hb⟩; simp only [idxVal])
  go_ret2
  exact ⟨rfl, hb⟩

theorem tipWanted_next (l : List (Int × Int)) (from_ s b : Int) (k : Nat) (hg : l.getD k (0, 0) = (s, b)) : tipWanted l from_ 1 0 k = (decide (from_ ≤ (k : Int)) && tipRightB s b && s == 1) := by
  unfold tipWanted
  rw [hg]
  by_cases hs : s = 1
  · subst hs; simp [tipRightB]
  · have : (s == 1) = false := by simpa using hs
    simp [this]
theorem tipWanted_held (l : List (Int × Int)) (n s b : Int) (k : Nat) (hg : l.getD k (0, 0) = (s, b)) : tipWanted l 0 2 n k = (tipRightB s b && s == 2 && b == n) := by
  unfold tipWanted
  rw [hg]
  have : (0 : Int) ≤ (k : Int) := by omega
  cases tipRightB s b <;> simp [this]

set_option maxHeartbeats 400000 in
theorem ref12_next (l : List (Int × Int)) (v : Value) (from_ : Int) (w : World) (hl : TipsAt w v l) :
    Calls Try.prog 21 #[v, .int .i64 from_] w
      fun r w' => r = .returned (idxVal (firstIdx (tipWanted l from_ 1 0) l.length)) ∧ Below w.heap.size w w' := by
  obtain ⟨a, cap, rfl, hm, hcells⟩ := hl
  have HC := Lib.hid hcells
  clear hcells
  unfold maxLen at hm
  go_enter Try.func21, Try.ntmps21
  go_wp2
  go_loopw [6] (fun i wr => ∃ k : Nat, k ≤ l.length ∧ i = .int .i64 k ∧ NoneYet (tipWanted l from_ 1 0) k ∧ Below w.heap.size w wr) (fun i _ => l.length - (intOf i).toNat)
  case atStart => exact ⟨0, Nat.zero_le _, rfl, NoneYet.zero _, Below.refl _ _⟩
  case round =>
    obtain ⟨k, hk, rfl, hnone, hbel⟩ := hrel
    by_cases hlt : k < l.length
    · obtain ⟨b0, off, rfl, hb0, hi⟩ := HC.out (by intro h; simp [h] at hlt)
      obtain ⟨hi0, hi1⟩ := hi k hlt
      rw [← hbel.cell (p := ⟨b0, _, none⟩) hb0] at hi0 hi1
      clear hi
      obtain ⟨s1, b1, hget⟩ : ∃ s1 b1, l.getD k (0, 0) = (s1, b1) := ⟨_, _, rfl⟩
      rw [hget] at hi0 hi1
      have HG := Lib.hid hget
      clear hget
      have hsz : b0 < wr.heap.size := by have := hbel.size; omega
      go_wp2_with (first | (go_at_call 19; refine (ref12_right _ _ _).mono ?_; rintro e w1 ⟨rfl, hb⟩; obtain ⟨hc, hf⟩ := bcell hb))
      all_goals first
        | (refine ⟨⟨k + 1, hlt, by go_num, hnone.succ (by rw [tipWanted_next _ _ _ _ _ HG.out]; simp [*]), ?_⟩, by simp [intOf]; omega⟩
           first | exact hbel | exact hbel.trans (hb.mono hbel.size))
        | (go_ret2
           exact ⟨by rw [firstIdx_some hnone hlt (by rw [tipWanted_next _ _ _ _ _ HG.out]; simp [*])]; rfl, hbel.trans (hb.mono hbel.size)⟩)
    · go_wp2
      go_ret2
      obtain rfl : k = l.length := by omega
      exact ⟨by rw [firstIdx_none hnone]; rfl, hbel⟩

set_option maxHeartbeats 400000 in
theorem ref12_held (l : List (Int × Int)) (v : Value) (n : Int) (w : World) (hl : TipsAt w v l) :
    Calls Try.prog 23 #[v, .int .i64 n] w
      fun r w' => r = .returned (idxVal (firstIdx (tipWanted l 0 2 n) l.length)) ∧ Below w.heap.size w w' := by
  obtain ⟨a, cap, rfl, hm, hcells⟩ := hl
  have HC := Lib.hid hcells
  clear hcells
  unfold maxLen at hm
  go_enter Try.func23, Try.ntmps23
  go_wp2
  go_loopw [6] (fun i wr => ∃ k : Nat, k ≤ l.length ∧ i = .int .i64 k ∧ NoneYet (tipWanted l 0 2 n) k ∧ Below w.heap.size w wr) (fun i _ => l.length - (intOf i).toNat)
  case atStart => exact ⟨0, Nat.zero_le _, rfl, NoneYet.zero _, Below.refl _ _⟩
  case round =>
    obtain ⟨k, hk, rfl, hnone, hbel⟩ := hrel
    by_cases hlt : k < l.length
    · obtain ⟨b0, off, rfl, hb0, hi⟩ := HC.out (by intro h; simp [h] at hlt)
      obtain ⟨hi0, hi1⟩ := hi k hlt
      rw [← hbel.cell (p := ⟨b0, _, none⟩) hb0] at hi0 hi1
      clear hi
      obtain ⟨s1, b1, hget⟩ : ∃ s1 b1, l.getD k (0, 0) = (s1, b1) := ⟨_, _, rfl⟩
      rw [hget] at hi0 hi1
      have HG := Lib.hid hget
      clear hget
      have hsz : b0 < wr.heap.size := by have := hbel.size; omega
      go_wp2_with (first | (go_at_call 19; refine (ref12_right _ _ _).mono ?_; rintro e w1 ⟨rfl, hb⟩; obtain ⟨hc, hf⟩ := bcell hb))
      all_goals first
        | (refine ⟨⟨k + 1, hlt, by go_num, hnone.succ (by rw [tipWanted_held _ _ _ _ _ HG.out]; first | (simp [*]; done) | simp_all), ?_⟩, by simp [intOf]; omega⟩
           first | exact hbel | exact hbel.trans (hb.mono hbel.size))
        | (go_ret2
           exact ⟨by rw [firstIdx_some hnone hlt (by rw [tipWanted_held _ _ _ _ _ HG.out]; first | (simp [*]; done) | simp_all)]; rfl, hbel.trans (hb.mono hbel.size)⟩)
    · go_wp2
      go_ret2
      obtain rfl : k = l.length := by omega
      exact ⟨by rw [firstIdx_none hnone]; rfl, hbel⟩

theorem tipRight_state {s b : Int} (h : tipRightB s b = true) : s = 1 ∨ s = 2 ∨ s = 3 := by
  unfold tipRightB at h
  by_cases h1 : s = 1
  · exact .inl h1
  · by_cases h2 : s = 2
    · exact .inr (.inl h2)
    · by_cases h3 : s = 3
      · exact .inr (.inr h3)
      · simp [h1, h2, h3] at h

/-- How many tips are right and of a state. -/
def tipCount (s : Int) (l : List (Int × Int)) : Nat := l.countP fun t => tipRightB t.1 t.2 && t.1 == s
theorem tipCount_le (s : Int) (l : List (Int × Int)) : tipCount s l ≤ l.length := List.countP_le_length
theorem tipCount_snoc (s : Int) (l : List (Int × Int)) (k : Nat) (s1 b1 : Int) (hk : k < l.length) (hg : l.getD k (0, 0) = (s1, b1)) :
    tipCount s (l.take (k + 1)) = tipCount s (l.take k) + if tipRightB s1 b1 && s1 == s then 1 else 0 := by
  have e : l[k] = (s1, b1) := by rw [← hg]; simp [hk]
  unfold tipCount
  rw [List.take_succ_eq_append_getElem hk, List.countP_append, e]
  simp [List.countP_cons]

set_option maxHeartbeats 400000 in
theorem tip_count (l : List (Int × Int)) (v : Value) (w : World) (hl : TipsAt w v l) :
    Calls Try.prog 24 #[v] w
      fun r w' => r = .returned (.tuple #[.int .i64 (tipCount 1 l : Nat), .int .i64 (tipCount 2 l : Nat), .int .i64 (tipCount 3 l : Nat)]) ∧ Below w.heap.size w w' := by
  obtain ⟨a, cap, rfl, hm, hcells⟩ := hl
  have HC := Lib.hid hcells
  clear hcells
  unfold maxLen at hm
  go_enter Try.func24, Try.ntmps24
  go_wp2
  go_loopw [2, 3, 4, 9] (fun p q r i wr => ∃ k : Nat, k ≤ l.length ∧ i = .int .i64 k ∧ p = .int .i64 (tipCount 1 (l.take k) : Nat) ∧ q = .int .i64 (tipCount 2 (l.take k) : Nat) ∧ r = .int .i64 (tipCount 3 (l.take k) : Nat) ∧ Below w.heap.size w wr) (fun _ _ _ i _ => l.length - (intOf i).toNat)
  case atStart => exact ⟨0, Nat.zero_le _, rfl, rfl, rfl, rfl, Below.refl _ _⟩
  case round =>
    obtain ⟨k, hk, rfl, rfl, rfl, rfl, hbel⟩ := hrel
    have c1 := tipCount_le 1 (l.take k)
    have c2 := tipCount_le 2 (l.take k)
    have c3 := tipCount_le 3 (l.take k)
    rw [List.length_take_of_le hk] at c1 c2 c3
    by_cases hlt : k < l.length
    · obtain ⟨b0, off, rfl, hb0, hi⟩ := HC.out (by intro h; simp [h] at hlt)
      obtain ⟨hi0, hi1⟩ := hi k hlt
      rw [← hbel.cell (p := ⟨b0, _, none⟩) hb0] at hi0 hi1
      clear hi
      obtain ⟨s1, b1, hget⟩ : ∃ s1 b1, l.getD k (0, 0) = (s1, b1) := ⟨_, _, rfl⟩
      rw [hget] at hi0 hi1
      have H1 := Lib.hid (tipCount_snoc 1 l k s1 b1 hlt hget)
      have H2 := Lib.hid (tipCount_snoc 2 l k s1 b1 hlt hget)
      have H3 := Lib.hid (tipCount_snoc 3 l k s1 b1 hlt hget)
      clear hget
      have hsz : b0 < wr.heap.size := by have := hbel.size; omega
      have hsz2 := hbel.size
      go_wp2_with (first | (go_at_call 18; refine (tip_right _ _ _).mono ?_; rintro e w1 ⟨rfl, hb⟩; obtain ⟨hc, hf⟩ := bcell hb))
      all_goals
        refine ⟨⟨k + 1, hlt, by go_num, ?_, ?_, ?_, (hbel.alloc hsz2 _).trans (hb.mono (by simp; omega))⟩, by simp [intOf]; omega⟩
      all_goals first
        | (rw [H1.out]; simp [*]; done)
        | (rw [H2.out]; simp [*]; done)
        | (rw [H3.out]; simp [*]; done)
        | (first | rw [H1.out] | rw [H2.out] | rw [H3.out])
      all_goals clear HC H1 H2 H3 hc hf hb hbel hi0 hi1
      all_goals first
        | (simp_all; done)
        | (have h9 : tipRightB s1 b1 = true := by simp_all
           have := tipRight_state h9
           simp_all)
    · go_wp2
      go_ret3
      obtain rfl : k = l.length := by omega
      rw [List.take_length]
      exact ⟨rfl, hbel⟩

/-- What four cells of a block hold, and that they may be written. -/
def Four (w : World) (b : Nat) (c0 c1 c2 c3 : Int) : Prop :=
  w.cell? ⟨b, 0, none⟩ = some (.int .i64 c0) ∧ w.cell? ⟨b, 1, none⟩ = some (.int .i64 c1) ∧ w.cell? ⟨b, 2, none⟩ = some (.int .i64 c2) ∧ w.cell? ⟨b, 3, none⟩ = some (.int .i64 c3) ∧
  w.frozen? ⟨b, 0, none⟩ = false ∧ w.frozen? ⟨b, 1, none⟩ = false ∧ w.frozen? ⟨b, 2, none⟩ = false ∧ w.frozen? ⟨b, 3, none⟩ = false

theorem Four.below {w w1 : World} {b : Nat} {c0 c1 c2 c3 : Int} (h : Four w b c0 c1 c2 c3) (hb : Below w.heap.size w w1) (hs : b < w.heap.size) : Four w1 b c0 c1 c2 c3 := by
  unfold Four at *
  simp only [hb.cell (p := ⟨b, _, none⟩) hs, hb.frozen (p := ⟨b, _, none⟩) hs]
  exact h
theorem Four.set1 {w : World} {b : Nat} {c0 c1 c2 c3 : Int} (h : Four w b c0 c1 c2 c3) (x : Int) : Four (w.setCell ⟨b, 1, none⟩ (.int .i64 x)) b c0 x c2 c3 := by
  obtain ⟨f0, f1, f2, f3, g0, g1, g2, g3⟩ := h
  unfold Four
  refine ⟨?_, ?_, ?_, ?_, ?_, ?_, ?_, ?_⟩ <;> go_simp
theorem Four.set2 {w : World} {b : Nat} {c0 c1 c2 c3 : Int} (h : Four w b c0 c1 c2 c3) (x : Int) : Four (w.setCell ⟨b, 2, none⟩ (.int .i64 x)) b c0 c1 x c3 := by
  obtain ⟨f0, f1, f2, f3, g0, g1, g2, g3⟩ := h
  unfold Four
  refine ⟨?_, ?_, ?_, ?_, ?_, ?_, ?_, ?_⟩ <;> go_simp
theorem Four.set3 {w : World} {b : Nat} {c0 c1 c2 c3 : Int} (h : Four w b c0 c1 c2 c3) (x : Int) : Four (w.setCell ⟨b, 3, none⟩ (.int .i64 x)) b c0 c1 c2 x := by
  obtain ⟨f0, f1, f2, f3, g0, g1, g2, g3⟩ := h
  unfold Four
  refine ⟨?_, ?_, ?_, ?_, ?_, ?_, ?_, ?_⟩ <;> go_simp
theorem Four.other {w : World} {b b' o : Nat} {c0 c1 c2 c3 : Int} (h : Four w b c0 c1 c2 c3) (hne : b' ≠ b) (x : Value) : Four (w.setCell ⟨b', o, none⟩ x) b c0 c1 c2 c3 := by
  obtain ⟨f0, f1, f2, f3, g0, g1, g2, g3⟩ := h
  have e (o' : Nat) : (w.setCell ⟨b', o, none⟩ x).cell? ⟨b, o', none⟩ = w.cell? ⟨b, o', none⟩ := World.cell?_setCell_far _ _ _ _ hne
  unfold Four
  simp only [e, f0, f1, f2, f3, World.frozen?_setCell, g0, g1, g2, g3, and_self]

set_option maxHeartbeats 400000 in
theorem ref12_count (l : List (Int × Int)) (v : Value) (w : World) (hl : TipsAt w v l) :
    Calls Try.prog 25 #[v] w
      fun r w' => r = .returned (.agg #[.int .i64 0, .int .i64 (tipCount 1 l : Nat), .int .i64 (tipCount 2 l : Nat), .int .i64 (tipCount 3 l : Nat)]) ∧ Below w.heap.size w w' := by
  obtain ⟨a, cap, rfl, hm, hcells⟩ := hl
  have HC := Lib.hid hcells
  clear hcells
  unfold maxLen at hm
  go_enter Try.func25, Try.ntmps25
  go_wp2
  go_loopw [4] (fun i wr => ∃ k : Nat, k ≤ l.length ∧ i = .int .i64 k ∧ Below w.heap.size w wr ∧ w.heap.size + 1 < wr.heap.size ∧ Four wr w.heap.size 0 0 0 0 ∧
      Four wr (w.heap.size + 1) 0 (tipCount 1 (l.take k) : Nat) (tipCount 2 (l.take k) : Nat) (tipCount 3 (l.take k) : Nat)) (fun i _ => l.length - (intOf i).toNat)
  case atStart => exact ⟨0, Nat.zero_le _, rfl, ((Below.refl _ _).alloc (Nat.le_refl _) _).alloc (by simp) _, by simp, by unfold Four; refine ⟨?_, ?_, ?_, ?_, ?_, ?_, ?_, ?_⟩ <;> go_simp, by unfold Four; refine ⟨?_, ?_, ?_, ?_, ?_, ?_, ?_, ?_⟩ <;> (go_simp; try rfl)⟩
  case round =>
    obtain ⟨k, hk, rfl, hbel, hsz2, hF0, hF⟩ := hrel
    have c1 := tipCount_le 1 (l.take k)
    have c2 := tipCount_le 2 (l.take k)
    have c3 := tipCount_le 3 (l.take k)
    rw [List.length_take_of_le hk] at c1 c2 c3
    by_cases hlt : k < l.length
    · obtain ⟨b0, off, rfl, hb0, hi⟩ := HC.out (by intro h; simp [h] at hlt)
      obtain ⟨hi0, hi1⟩ := hi k hlt
      rw [← hbel.cell (p := ⟨b0, _, none⟩) hb0] at hi0 hi1
      clear hi
      obtain ⟨s1, b1, hget⟩ : ∃ s1 b1, l.getD k (0, 0) = (s1, b1) := ⟨_, _, rfl⟩
      rw [hget] at hi0 hi1
      have H1 := Lib.hid (tipCount_snoc 1 l k s1 b1 hlt hget)
      have H2 := Lib.hid (tipCount_snoc 2 l k s1 b1 hlt hget)
      have H3 := Lib.hid (tipCount_snoc 3 l k s1 b1 hlt hget)
      clear hget
      have hsz : b0 < wr.heap.size := by omega
      have HFF := Lib.hid hF
      obtain ⟨f0, f1, f2, f3, g0, g1, g2, g3⟩ := hF
      have HF0 := Lib.hid hF0
      clear hF0
      cases hR : tipRightB s1 b1 with
      | false =>
        go_wp2_with (first | (go_at_call 19; refine (ref12_right _ _ _).mono ?_; rintro e w1 ⟨rfl, hb⟩; obtain ⟨hc, hf⟩ := bcell hb))
        refine ⟨⟨k + 1, hlt, by go_num, hbel.trans (hb.mono (by omega)), by have := hb.size; omega, HF0.out.below hb (by omega), ?_⟩, by simp [intOf]; omega⟩
        rw [H1.out, H2.out, H3.out]
        simpa [hR] using HFF.out.below hb (by omega)
      | true =>
        rcases tipRight_state hR with rfl | rfl | rfl
        all_goals
          go_wp2_with (first | (go_at_call 19; refine (ref12_right _ _ _).mono ?_; rintro e w1 ⟨rfl, hb⟩; obtain ⟨hc, hf⟩ := bcell hb))
        all_goals refine ⟨⟨k + 1, hlt, by go_num, (hbel.trans (hb.mono (by omega))).setCell (by simp) _, by have := hb.size; simp; omega, (HF0.out.below hb (by omega)).other (by omega) _, ?_⟩, by simp [intOf]; omega⟩
        all_goals rw [H1.out, H2.out, H3.out]
        · simpa [hR] using (HFF.out.below hb (by omega)).set1 ((tipCount 1 (l.take k) : Nat) + 1)
        · simpa [hR] using (HFF.out.below hb (by omega)).set2 ((tipCount 2 (l.take k) : Nat) + 1)
        · simpa [hR] using (HFF.out.below hb (by omega)).set3 ((tipCount 3 (l.take k) : Nat) + 1)
    · obtain ⟨f0, f1, f2, f3, g0, g1, g2, g3⟩ := hF
      obtain ⟨e0, e1, e2, e3, d0, d1, d2, d3⟩ := hF0
      go_wp2
      obtain rfl : k = l.length := by omega
      rw [List.take_length] at *
      refine bodyPost_ret (v := .agg #[.int .i64 0, .int .i64 (tipCount 1 l : Nat), .int .i64 (tipCount 2 l : Nat), .int .i64 (tipCount 3 l : Nat)]) (by simp [results, Try.results25, go_sem, *]) rfl ⟨rfl, ?_⟩
      exact (((hbel.setCell (by simp) _).setCell (by simp) _).setCell (by simp) _).setCell (by simp) _

end Go.Proofs.Ytdpinfigjeafpaa
