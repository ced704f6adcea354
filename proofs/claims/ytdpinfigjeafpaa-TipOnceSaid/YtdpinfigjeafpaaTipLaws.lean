/- Walks of the three statements on tips: each returns true, and writes nothing that was there. -/
import Derived.Test.YtdpinfigjeafpaaTipLists
namespace Go.Proofs.Ytdpinfigjeafpaa
open Go.RowKit
set_option linter.unusedVariables false
set_option linter.unusedSimpArgs false

theorem TipsAt.two {w : World} {b : Nat} {s0 b0 s1 b1 : Int} (h0 : w.cell? ⟨b, 0, none⟩ = some (.int .i64 s0)) (h1 : w.cell? ⟨b, 1, none⟩ = some (.int .i64 b0)) (h2 : w.cell? ⟨b, 2, none⟩ = some (.int .i64 s1)) (h3 : w.cell? ⟨b, 3, none⟩ = some (.int .i64 b1))
    (hb : b < w.heap.size) : TipsAt w (.slice (some ⟨b, 0, none⟩) 2 2) [(s0, b0), (s1, b1)] := by
  refine ⟨_, _, rfl, by unfold maxLen; simp, fun _ => ⟨b, 0, rfl, hb, fun i hi => ?_⟩⟩
  have hi' : i < 2 := hi
  match i, hi' with
  | 0, _ => exact ⟨h0, h1⟩
  | 1, _ => exact ⟨h2, h3⟩

/-- A tip lies in a block. -/
def TipIn (w : World) (b : Nat) (s n : Int) : Prop := b < w.heap.size ∧ w.cell? ⟨b, 0, none⟩ = some (.int .i64 s) ∧ w.cell? ⟨b, 1, none⟩ = some (.int .i64 n)
theorem TipIn.new (w : World) (s n : Int) (t : TypeId) : TipIn (w.alloc (.cells #[.int .i64 s, .int .i64 n] t)) w.heap.size s n := ⟨by simp, by go_simp, by go_simp⟩
theorem TipIn.below {w w' : World} {b : Nat} {s n : Int} (h : TipIn w b s n) (hb : Below w.heap.size w w') : TipIn w' b s n := by
  obtain ⟨h0, h1, h2⟩ := h
  exact ⟨Nat.lt_of_lt_of_le h0 hb.size, (hb.cell (p := ⟨b, 0, none⟩) h0).trans h1, (hb.cell (p := ⟨b, 1, none⟩) h0).trans h2⟩
theorem TipIn.alloc {w : World} {b : Nat} {s n : Int} (h : TipIn w b s n) (o : Obj) : TipIn (w.alloc o) b s n := h.below ((Below.refl _ _).alloc (Nat.le_refl _) o)
theorem TipIn.put {w : World} {b : Nat} {s n : Int} (h : TipIn w b s n) (s' n' : Int) : TipIn ((w.setCell ⟨b, 0, none⟩ (.int .i64 s')).setCell ⟨b, 1, none⟩ (.int .i64 n')) b s' n' := by
  obtain ⟨h0, h1, h2⟩ := h
  exact ⟨by simpa using h0, by go_simp, by go_simp⟩

set_option maxHeartbeats 400000 in
theorem tip_lives (w : World) : Calls Try.prog 17 #[] w fun r w' => r = .returned (.bool true) ∧ Below w.heap.size w w' := by
  go_enter Try.func17, Try.ntmps17
  go_wp2_with fail
  refine (tip_take _ _ _ _).mono ?_
  rintro e w1 ⟨rfl, hb1⟩
  simp only [show tipTake 1 0 2 = (2, 2, 0) from rfl]
  go_wp2_with fail
  refine (tip_drop _ _ _ _).mono ?_
  rintro e w2 ⟨rfl, hb2⟩
  simp only [show tipDrop 2 2 1 = (0, 0, 122) from rfl]
  have p2 := (TipIn.new w1 2 2 _).below hb2
  obtain ⟨q0, q1, q2⟩ := p2
  go_wp2_with fail
  refine (tip_drop _ _ _ _).mono ?_
  rintro e w3 ⟨rfl, hb3⟩
  simp only [show tipDrop 2 2 2 = (3, 0, 0) from rfl]
  have p3 := ((TipIn.alloc ⟨q0, q1, q2⟩ _).below hb3)
  clear q0 q1 q2
  obtain ⟨q0, q1, q2⟩ := p3
  go_wp2_with fail
  refine (tip_next [(3, 0), (1, 0)] _ _ _ (TipsAt.two (by go_simp) (by go_simp) (by go_simp) (by go_simp) (by simp))).mono ?_
  rintro e w4 ⟨rfl, hb4⟩
  simp only [show firstIdx (tipWanted [(3, 0), (1, 0)] 0 1 0) [((3 : Int), (0 : Int)), (1, 0)].length = some 1 from by decide +kernel, idxVal]
  have p4 := (((TipIn.alloc ⟨q0, q1, q2⟩ _).alloc _).below hb4)
  obtain ⟨r0, r1, r2⟩ := ((TipIn.new w3 3 0 _).alloc _).below hb4
  clear q0 q1 q2
  obtain ⟨q0, q1, q2⟩ := p4
  go_wp2_with fail
  refine (tip_count [(3, 0), (2, 2)] _ _ (TipsAt.two (by go_simp) (by go_simp) (by go_simp) (by go_simp) (by simp))).mono ?_
  rintro e w5 ⟨rfl, hb5⟩
  simp only [show tipCount 1 [(3, 0), (2, 2)] = 0 from by decide +kernel, show tipCount 2 [(3, 0), (2, 2)] = 1 from by decide +kernel, show tipCount 3 [(3, 0), (2, 2)] = 1 from by decide +kernel]
  have p5 := (TipIn.alloc ⟨q0, q1, q2⟩ _).below hb5
  have p6 := (TipIn.alloc ⟨r0, r1, r2⟩ _).below hb5
  clear q0 q1 q2 r0 r1 r2
  obtain ⟨q0, q1, q2⟩ := p5
  obtain ⟨r0, r1, r2⟩ := p6
  go_wp2_with fail
  refine (tip_held [(3, 0), (2, 2)] _ _ _ (TipsAt.two (by go_simp) (by go_simp) (by go_simp) (by go_simp) (by simp))).mono ?_
  rintro e w6 ⟨rfl, hb6⟩
  simp only [show firstIdx (tipWanted [(3, 0), (2, 2)] 0 2 2) [((3 : Int), (0 : Int)), (2, 2)].length = some 1 from by decide +kernel, idxVal]
  have p7 := (TipIn.alloc ⟨q0, q1, q2⟩ _).below hb6
  have p8 := (TipIn.alloc ⟨r0, r1, r2⟩ _).below hb6
  clear q0 q1 q2 r0 r1 r2
  obtain ⟨q0, q1, q2⟩ := p7
  obtain ⟨r0, r1, r2⟩ := p8
  go_wp2_with fail
  refine (tip_right _ _ _).mono ?_
  rintro e w7 ⟨rfl, hb7⟩
  simp only [show tipRightB 3 0 = true from rfl]
  go_wp2_with fail
  go_ret
  have e := Nat.le_refl w.heap.size
  exact ⟨rfl, bstep (bstep1 (bstep1 (bstep2 (bstep1 (bstep1 hb1 e hb2) e hb3) e hb4) e hb5) e hb6) e hb7⟩

end Go.Proofs.Ytdpinfigjeafpaa
