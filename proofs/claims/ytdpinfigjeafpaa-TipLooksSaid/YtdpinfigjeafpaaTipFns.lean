/- Walks of package tip and of its reference: what each function returns; memory that was there stays as it was. -/
import Derived.Test.YtdpinfigjeafpaaBase
namespace Go.Proofs.Ytdpinfigjeafpaa
open Go.RowKit
set_option linter.unusedVariables false
set_option linter.unusedSimpArgs false

/-- Is there such an arm? -/
def armB (n : Int) : Bool := decide (1 ≤ n) && decide (n ≤ 8)
/-- Is a tip right? -/
def tipRightB (s b : Int) : Bool := if s == 2 then armB b else if s == 1 || s == 3 then b == 0 else false
/-- What is wrong with a tip that ought to be another one. -/
def tipWrong (s b n s' b' : Int) : Int := if tipRightB s b then (if armB n then (if s == s' && b == b' then 0 else 3) else 2) else 1
/-- The error of what is wrong. -/
def tipTold (x e : Int) : Int := if x == 1 then 120 else if x == 2 then 1 else if x == 3 then e else 0

set_option maxHeartbeats 400000 in
theorem tip_arm (n : Int) (w : World) : Calls Try.prog 57 #[.int .i64 n] w fun e w' => e = .returned (.bool (armB n)) ∧ w = w' := by
  go_enter Try.func57, Try.ntmps57
  go_wp2
  all_goals (go_ret; exact ⟨ret_bool (by simp [armB]; omega), rfl⟩)

set_option maxHeartbeats 400000 in
theorem tip_right (s b : Int) (w : World) : Calls Try.prog 18 #[.agg #[.int .i64 s, .int .i64 b]] w fun e w' => e = .returned (.bool (tipRightB s b)) ∧ Below w.heap.size w w' := by
  go_enter Try.func18, Try.ntmps18
  go_wp2_with (go_at_call 57; refine (tip_arm _ _).mono ?_; rintro e w' ⟨rfl, rfl⟩)
  all_goals (go_ret; exact ⟨ret_bool (by simp_all [tipRightB]), (Below.refl _ _).alloc (Nat.le_refl _) _⟩)

set_option maxHeartbeats 400000 in
theorem tip_told (x e : Int) (w : World) : Calls Try.prog 70 #[.int .i64 x, .int .i64 e] w fun r w' => r = .returned (.int .i64 (tipTold x e)) ∧ w = w' := by
  go_enter Try.func70, Try.ntmps70
  go_wp2
  all_goals (go_ret; exact ⟨ret_int (by simp_all [tipTold]), rfl⟩)

set_option maxHeartbeats 400000 in
theorem tip_wrong (s b n s' b' : Int) (w : World) : Calls Try.prog 71 #[.agg #[.int .i64 s, .int .i64 b], .int .i64 n, .agg #[.int .i64 s', .int .i64 b']] w
    fun r w' => r = .returned (.int .i64 (tipWrong s b n s' b')) ∧ Below w.heap.size w w' := by
  go_enter Try.func71, Try.ntmps71
  go_wp2_with (first | (go_at_call 57; refine (tip_arm _ _).mono ?_; rintro e w' ⟨rfl, rfl⟩) | (go_at_call 18; refine (tip_right _ _ _).mono ?_; rintro e w1 ⟨rfl, hb⟩; obtain ⟨hc, hf⟩ := bcell hb))
  all_goals go_ret
  all_goals exact ⟨ret_int (by simp_all [tipWrong]), of_alloc (of_alloc hb)⟩

/-- What a tip becomes, and the error. -/
def tipTurn (s b n s1 b1 s2 b2 e : Int) : Int × Int × Int := if tipTold (tipWrong s b n s1 b1) e == 0 then (s2, b2, 0) else (0, 0, tipTold (tipWrong s b n s1 b1) e)

set_option maxHeartbeats 400000 in
theorem tip_turn (s b n s1 b1 s2 b2 e : Int) (w : World) :
    Calls Try.prog 55 #[.agg #[.int .i64 s, .int .i64 b], .int .i64 n, .agg #[.int .i64 s1, .int .i64 b1], .agg #[.int .i64 s2, .int .i64 b2], .int .i64 e] w
    fun r w' => r = .returned (.tuple #[.agg #[.int .i64 (tipTurn s b n s1 b1 s2 b2 e).1, .int .i64 (tipTurn s b n s1 b1 s2 b2 e).2.1], .int .i64 (tipTurn s b n s1 b1 s2 b2 e).2.2]) ∧ Below w.heap.size w w' := by
  go_enter Try.func55, Try.ntmps55
  go_wp2_with (first | (go_at_call 70; refine (tip_told _ _ _).mono ?_; rintro e w' ⟨rfl, rfl⟩) | (go_at_call 71; refine (tip_wrong _ _ _ _ _ _).mono ?_; rintro e w1 ⟨rfl, hb⟩; obtain ⟨hc, hf⟩ := bcell hb))
  · have hT : tipTurn s b n s1 b1 s2 b2 e = (0, 0, tipTold (tipWrong s b n s1 b1) e) := by simp_all [tipTurn]
    rw [hT]
    refine bodyPost_ret (v := .tuple #[.agg #[.int .i64 0, .int .i64 0], .int .i64 (tipTold (tipWrong s b n s1 b1) e)]) (by simp [results, Try.results55, go_sem, hc, hf]) rfl ⟨rfl, ?_⟩
    exact ((of_alloc (of_alloc (of_alloc (of_alloc hb)))).setCell (by simp; omega) _).setCell (by simp; omega) _
  · have hT : tipTurn s b n s1 b1 s2 b2 e = (s2, b2, 0) := by simp_all [tipTurn]
    rw [hT]
    refine bodyPost_ret (v := .tuple #[.agg #[.int .i64 s2, .int .i64 b2], .int .i64 0]) (by simp [results, Try.results55, go_sem, hc, hf]) rfl ⟨rfl, ?_⟩
    exact ((of_alloc (of_alloc (of_alloc (of_alloc hb)))).setCell (by simp; omega) _).setCell (by simp; omega) _

def tipTake (s b n : Int) : Int × Int × Int := tipTurn s b n 1 0 2 n 121
def tipDrop (s b n : Int) : Int × Int × Int := tipTurn s b n 2 n 3 0 122

set_option maxHeartbeats 400000 in
theorem tip_take (s b n : Int) (w : World) :
    Calls Try.prog 13 #[.agg #[.int .i64 s, .int .i64 b], .int .i64 n] w
    fun r w' => r = .returned (.tuple #[.agg #[.int .i64 (tipTake s b n).1, .int .i64 (tipTake s b n).2.1], .int .i64 (tipTake s b n).2.2]) ∧ Below w.heap.size w w' := by
  go_enter Try.func13, Try.ntmps13
  go_wp2_with (first | (go_at_call 55; refine (tip_turn _ _ _ _ _ _ _ _ _).mono ?_; rintro e w1 ⟨rfl, hb⟩; obtain ⟨hc, hf⟩ := bcell hb))
  refine bodyPost_ret (v := .tuple #[.agg #[.int .i64 (tipTake s b n).1, .int .i64 (tipTake s b n).2.1], .int .i64 (tipTake s b n).2.2]) (by simp [results, Try.results13, go_sem, hc, hf, tipTake]) rfl ⟨rfl, ?_⟩
  exact ((of_alloc (of_alloc hb)).setCell (by simp) _).setCell (by simp) _

set_option maxHeartbeats 400000 in
theorem tip_drop (s b n : Int) (w : World) :
    Calls Try.prog 14 #[.agg #[.int .i64 s, .int .i64 b], .int .i64 n] w
    fun r w' => r = .returned (.tuple #[.agg #[.int .i64 (tipDrop s b n).1, .int .i64 (tipDrop s b n).2.1], .int .i64 (tipDrop s b n).2.2]) ∧ Below w.heap.size w w' := by
  go_enter Try.func14, Try.ntmps14
  go_wp2_with (first | (go_at_call 55; refine (tip_turn _ _ _ _ _ _ _ _ _).mono ?_; rintro e w1 ⟨rfl, hb⟩; obtain ⟨hc, hf⟩ := bcell hb))
  refine bodyPost_ret (v := .tuple #[.agg #[.int .i64 (tipDrop s b n).1, .int .i64 (tipDrop s b n).2.1], .int .i64 (tipDrop s b n).2.2]) (by simp [results, Try.results14, go_sem, hc, hf, tipDrop]) rfl ⟨rfl, ?_⟩
  exact ((of_alloc (of_alloc hb)).setCell (by simp) _).setCell (by simp) _

set_option maxHeartbeats 400000 in
theorem ref12_arm (n : Int) (w : World) : Calls Try.prog 56 #[.int .i64 n] w fun e w' => e = .returned (.bool (armB n)) ∧ w = w' := by
  go_enter Try.func56, Try.ntmps56
  go_wp2
  all_goals (go_ret; exact ⟨ret_bool (by simp [armB]; omega), rfl⟩)

set_option maxHeartbeats 400000 in
theorem ref12_right (s b : Int) (w : World) : Calls Try.prog 19 #[.agg #[.int .i64 s, .int .i64 b]] w fun e w' => e = .returned (.bool (tipRightB s b)) ∧ Below w.heap.size w w' := by
  go_enter Try.func19, Try.ntmps19
  go_wp2_with (go_at_call 56; refine (ref12_arm _ _).mono ?_; rintro e w' ⟨rfl, rfl⟩)
  all_goals (go_ret; exact ⟨ret_bool (by simp_all [tipRightB]), (Below.refl _ _).alloc (Nat.le_refl _) _⟩)

theorem tipTake_eq (s b n : Int) : tipTake s b n = if !tipRightB s b then (0, 0, 120) else if !armB n then (0, 0, 1) else if s != 1 then (0, 0, 121) else (2, n, 0) := by
  unfold tipTake tipTurn tipTold tipWrong
  cases h1 : tipRightB s b <;> cases h2 : armB n <;> simp
  unfold tipRightB at h1
  by_cases hs : s = 1
  · subst hs; simp_all
  · simp [hs]
theorem tipDrop_eq (s b n : Int) : tipDrop s b n = if !tipRightB s b then (0, 0, 120) else if !armB n then (0, 0, 1) else if s != 2 then (0, 0, 122) else if b != n then (0, 0, 122) else (3, 0, 0) := by
  unfold tipDrop tipTurn tipTold tipWrong
  cases h1 : tipRightB s b <;> cases h2 : armB n <;> simp
  by_cases hs : s = 2 <;> by_cases hb : b = n <;> simp [hs, hb]

set_option maxHeartbeats 400000 in
theorem ref12_take (s b n : Int) (w : World) :
    Calls Try.prog 15 #[.agg #[.int .i64 s, .int .i64 b], .int .i64 n] w
    fun r w' => r = .returned (.tuple #[.agg #[.int .i64 (tipTake s b n).1, .int .i64 (tipTake s b n).2.1], .int .i64 (tipTake s b n).2.2]) ∧ Below w.heap.size w w' := by
  go_enter Try.func15, Try.ntmps15
  go_wp2_with (first | (go_at_call 56; refine (ref12_arm _ _).mono ?_; rintro e w' ⟨rfl, rfl⟩) | (go_at_call 19; refine (ref12_right _ _ _).mono ?_; rintro e w1 ⟨rfl, hb⟩; obtain ⟨hc, hf⟩ := bcell hb))
  all_goals
    refine bodyPost_ret (v := .tuple #[.agg #[.int .i64 (tipTake s b n).1, .int .i64 (tipTake s b n).2.1], .int .i64 (tipTake s b n).2.2]) (by simp [results, Try.results15, go_sem, tipTake_eq, *]) rfl ⟨rfl, ?_⟩
    exact ((of_alloc (of_alloc hb)).setCell (by simp) _).setCell (by simp) _

set_option maxHeartbeats 400000 in
theorem ref12_drop (s b n : Int) (w : World) :
    Calls Try.prog 16 #[.agg #[.int .i64 s, .int .i64 b], .int .i64 n] w
    fun r w' => r = .returned (.tuple #[.agg #[.int .i64 (tipDrop s b n).1, .int .i64 (tipDrop s b n).2.1], .int .i64 (tipDrop s b n).2.2]) ∧ Below w.heap.size w w' := by
  go_enter Try.func16, Try.ntmps16
  go_wp2_with (first | (go_at_call 56; refine (ref12_arm _ _).mono ?_; rintro e w' ⟨rfl, rfl⟩) | (go_at_call 19; refine (ref12_right _ _ _).mono ?_; rintro e w1 ⟨rfl, hb⟩; obtain ⟨hc, hf⟩ := bcell hb))
  all_goals
    refine bodyPost_ret (v := .tuple #[.agg #[.int .i64 (tipDrop s b n).1, .int .i64 (tipDrop s b n).2.1], .int .i64 (tipDrop s b n).2.2]) (by first | (simp [results, Try.results16, go_sem, tipDrop_eq, *]; done) | simp_all [results, Try.results16, go_sem, tipDrop_eq]) rfl ⟨rfl, ?_⟩
    exact ((of_alloc (of_alloc hb)).setCell (by simp) _).setCell (by simp) _

end Go.Proofs.Ytdpinfigjeafpaa
