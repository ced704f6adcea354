/- The walk of TipDoes: it returns true, and writes nothing that was there. -/
import Derived.Test.YtdpinfigjeafpaaTipLaws
namespace Go.Proofs.Ytdpinfigjeafpaa
open Go.RowKit
set_option linter.unusedVariables false
set_option linter.unusedSimpArgs false

/-- What the last statement of TipDoes reads stays. -/
def DoesS (w w' : World) (b0 b1 b2 b3 b4 : Nat) (s b ts tb ds db : Int) : Prop :=
  Below w.heap.size w w' ∧ w.heap.size ≤ w'.heap.size ∧ TipIn w' b0 s b ∧ TipIn w' b1 ts tb ∧ TipIn w' b2 ds db ∧ TipIn w' b3 ts tb ∧ TipIn w' b4 ds db
theorem DoesS.out {w w' w'' : World} {b0 b1 b2 b3 b4 : Nat} {s b ts tb ds db : Int} {Q : Prop} (h : DoesS w w' b0 b1 b2 b3 b4 s b ts tb ds db ∧ Q) (hb : Below w'.heap.size w' w'') :
    DoesS w w'' b0 b1 b2 b3 b4 s b ts tb ds db ∧ w''.cell? ⟨b0, 0, none⟩ = some (.int .i64 s) ∧ w''.cell? ⟨b0, 1, none⟩ = some (.int .i64 b) ∧
    w''.cell? ⟨b1, 0, none⟩ = some (.int .i64 ts) ∧ w''.cell? ⟨b1, 1, none⟩ = some (.int .i64 tb) ∧
    w''.cell? ⟨b2, 0, none⟩ = some (.int .i64 ds) ∧ w''.cell? ⟨b2, 1, none⟩ = some (.int .i64 db) ∧
    w''.cell? ⟨b3, 0, none⟩ = some (.int .i64 ts) ∧ w''.cell? ⟨b3, 1, none⟩ = some (.int .i64 tb) ∧
    w''.cell? ⟨b4, 0, none⟩ = some (.int .i64 ds) ∧ w''.cell? ⟨b4, 1, none⟩ = some (.int .i64 db) := by
  obtain ⟨⟨h0, hs, h1, h2, h3, h4, h5⟩, _⟩ := h
  have k1 := h1.below hb
  have k2 := h2.below hb
  have k3 := h3.below hb
  have k4 := h4.below hb
  have k5 := h5.below hb
  exact ⟨⟨h0.trans (hb.mono hs), Nat.le_trans hs hb.size, k1, k2, k3, k4, k5⟩, k1.2.1, k1.2.2, k2.2.1, k2.2.2, k3.2.1, k3.2.2, k4.2.1, k4.2.2, k5.2.1, k5.2.2⟩

set_option maxHeartbeats 400000 in
theorem tip_does (s b n : Int) (w : World) : Calls Try.prog 3 #[.agg #[.int .i64 s, .int .i64 b], .int .i64 n] w fun r w' => r = .returned (.bool true) ∧ Below w.heap.size w w' := by
  obtain ⟨ts, tb, te, hT⟩ : ∃ ts tb te, tipTake s b n = (ts, tb, te) := ⟨_, _, _, rfl⟩
  obtain ⟨ds, db, de, hD⟩ : ∃ ds db de, tipDrop s b n = (ds, db, de) := ⟨_, _, _, rfl⟩
  have HT := Lib.hid hT
  have HD := Lib.hid hD
  clear hT hD
  go_enter Try.func3, Try.ntmps3
  go_wp2_with fail
  refine (tip_take _ _ _ _).mono ?_
  rintro e w1 ⟨rfl, hb1⟩
  simp only [HT.out]
  have p1 := (TipIn.new w s b _).below hb1
  obtain ⟨q0, q1, q2⟩ := p1
  go_wp2_with fail
  refine (tip_drop _ _ _ _).mono ?_
  rintro e w2 ⟨rfl, hb2⟩
  simp only [HD.out]
  have p2 := (TipIn.alloc ⟨q0, q1, q2⟩ _).below hb2
  have a2 := (TipIn.new w1 ts tb _).below hb2
  clear q0 q1 q2
  obtain ⟨q0, q1, q2⟩ := p2
  go_wp2_with fail
  refine (ref12_take _ _ _ _).mono ?_
  rintro e w3 ⟨rfl, hb3⟩
  simp only [HT.out]
  have p3 := (TipIn.alloc ⟨q0, q1, q2⟩ _).below hb3
  have a3 := (a2.alloc _).below hb3
  have d3 := (TipIn.new w2 ds db _).below hb3
  clear q0 q1 q2
  obtain ⟨q0, q1, q2⟩ := p3
  go_wp2_with fail
  refine (ref12_drop _ _ _ _).mono ?_
  rintro e w4 ⟨rfl, hb4⟩
  simp only [HD.out]
  have p4 := (TipIn.alloc ⟨q0, q1, q2⟩ _).below hb4
  have a4 := (a3.alloc _).below hb4
  have d4 := (d3.alloc _).below hb4
  have x4 := (TipIn.new w3 ts tb _).below hb4
  have e := Nat.le_refl w.heap.size
  have hbel : Below w.heap.size w w4 := bstep1 (bstep1 (bstep1 (of_alloc hb1) e hb2) e hb3) e hb4
  have hD0 : DoesS w (w4.alloc (.cells #[.int .i64 ds, .int .i64 db] 23)) w.heap.size w1.heap.size w2.heap.size w3.heap.size w4.heap.size s b ts tb ds db ∧ True :=
    ⟨⟨hbel.alloc hbel.size _, Nat.le_trans hbel.size (by simp), p4.alloc _, a4.alloc _, d4.alloc _, x4.alloc _, TipIn.new _ _ _ _⟩, trivial⟩
  clear hb1 hb2 hb3 hb4 e a2 a3 d3 p4 a4 d4 x4 q0 q1 q2 hbel
  go_wp2_with fail
  go_region_held3 (fun w' => DoesS w w' w.heap.size w1.heap.size w2.heap.size w3.heap.size w4.heap.size s b ts tb ds db ∧ w'.cell? ⟨w.heap.size, 0, none⟩ = some (.int .i64 s) ∧ w'.cell? ⟨w.heap.size, 1, none⟩ = some (.int .i64 b) ∧
    w'.cell? ⟨w1.heap.size, 0, none⟩ = some (.int .i64 ts) ∧ w'.cell? ⟨w1.heap.size, 1, none⟩ = some (.int .i64 tb) ∧
    w'.cell? ⟨w2.heap.size, 0, none⟩ = some (.int .i64 ds) ∧ w'.cell? ⟨w2.heap.size, 1, none⟩ = some (.int .i64 db) ∧
    w'.cell? ⟨w3.heap.size, 0, none⟩ = some (.int .i64 ts) ∧ w'.cell? ⟨w3.heap.size, 1, none⟩ = some (.int .i64 tb) ∧
    w'.cell? ⟨w4.heap.size, 0, none⟩ = some (.int .i64 ds) ∧ w'.cell? ⟨w4.heap.size, 1, none⟩ = some (.int .i64 db)) (first | exact DoesS.out hD0 (below_drew _) | exact DoesS.out (by assumption) (by assumption))
   (first
    | (go_at_call 17; refine (tip_lives _).mono ?_; rintro e w5 ⟨rfl, hb⟩)
    | (go_at_call 18; refine (tip_right _ _ _).mono ?_; rintro e w5 ⟨rfl, hb⟩)
    | (go_at_call 19; refine (ref12_right _ _ _).mono ?_; rintro e w5 ⟨rfl, hb⟩))
  all_goals go_wp2
  all_goals go_ret
  all_goals (rename_i hH; exact ⟨rfl, hH.1.1⟩)

end Go.Proofs.Ytdpinfigjeafpaa
