/- The walk of TipLooks: it returns true, and writes nothing that was there. -/
import Derived.Test.YtdpinfigjeafpaaTipLaws
namespace Go.Proofs.Ytdpinfigjeafpaa
open Go.RowKit
set_option linter.unusedVariables false
set_option linter.unusedSimpArgs false


set_option maxHeartbeats 400000 in
theorem tip_looks (l : List (Int × Int)) (v : Value) (from_ n : Int) (w : World) (hl : TipsAt w v l) : Calls Try.prog 4 #[v, .int .i64 from_, .int .i64 n] w fun r w' => r = .returned (.bool true) ∧ Below w.heap.size w w' := by
  have HL := Lib.hid hl
  clear hl
  obtain ⟨i1, h1⟩ : ∃ i1, firstIdx (tipWanted l from_ 1 0) l.length = i1 := ⟨_, rfl⟩
  obtain ⟨i2, h2⟩ : ∃ i2, firstIdx (tipWanted l 0 2 n) l.length = i2 := ⟨_, rfl⟩
  have H1 := Lib.hid h1
  have H2 := Lib.hid h2
  clear h1 h2
  go_enter Try.func4, Try.ntmps4
  go_wp2_with fail
  refine (tip_next l _ _ _ HL.out).mono ?_
  rintro e w1 ⟨rfl, hb1⟩
  simp only [H1.out, idxVal]
  go_wp2_with fail
  refine (ref12_next l _ _ _ (HL.out.below hb1)).mono ?_
  rintro e w2 ⟨rfl, hb2⟩
  simp only [H1.out, idxVal]
  have b2 := bstep hb1 (Nat.le_refl _) hb2
  go_wp2_with fail
  refine (tip_held l _ _ _ (HL.out.below b2)).mono ?_
  rintro e w3 ⟨rfl, hb3⟩
  simp only [H2.out, idxVal]
  have b3 := bstep b2 (Nat.le_refl _) hb3
  go_wp2_with fail
  refine (ref12_held l _ _ _ (HL.out.below b3)).mono ?_
  rintro e w4 ⟨rfl, hb4⟩
  simp only [H2.out, idxVal]
  have b4 := bstep b3 (Nat.le_refl _) hb4
  go_wp2_with fail
  refine (tip_count l _ _ (HL.out.below b4)).mono ?_
  rintro e w5 ⟨rfl, hb5⟩
  have b5 := bstep b4 (Nat.le_refl _) hb5
  go_wp2_with fail
  refine (ref12_count l _ _ (HL.out.below b5)).mono ?_
  rintro e w6 ⟨rfl, hb6⟩
  have b6 := bstep b5 (Nat.le_refl _) hb6
  clear hb1 hb2 hb3 hb4 hb5 hb6 b2 b3 b4 b5
  go_wp2_with fail
  refine (tip_lives _).mono ?_
  rintro e w7 ⟨rfl, hb7⟩
  have b7 := bstep1 b6 (Nat.le_refl _) hb7
  have c1 : w7.cell? ⟨w6.heap.size, 1, none⟩ = some (.int .i64 (tipCount 1 l : Nat)) := by rw [hb7.cell (p := ⟨w6.heap.size, 1, none⟩) (by simp)]; go_simp
  have c2 : w7.cell? ⟨w6.heap.size, 2, none⟩ = some (.int .i64 (tipCount 2 l : Nat)) := by rw [hb7.cell (p := ⟨w6.heap.size, 2, none⟩) (by simp)]; go_simp
  have c3 : w7.cell? ⟨w6.heap.size, 3, none⟩ = some (.int .i64 (tipCount 3 l : Nat)) := by rw [hb7.cell (p := ⟨w6.heap.size, 3, none⟩) (by simp)]; go_simp
  clear hb7 b6
  go_wp2_with fail
  go_ret
  exact ⟨rfl, b7⟩

end Go.Proofs.Ytdpinfigjeafpaa
