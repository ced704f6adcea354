/- The walk of TipOnce: it returns true, and writes nothing that was there. -/
import Derived.Test.YtdpinfigjeafpaaTipLaws
namespace Go.Proofs.Ytdpinfigjeafpaa
open Go.RowKit
set_option linter.unusedVariables false
set_option linter.unusedSimpArgs false

/-- Where a tip's life stands: fresh; held by who took it; spent. -/
def OnceOk (s n t d b : Int) : Prop := (s = 1 ∧ n = 0 ∧ t = 0 ∧ d = 0 ∧ b = 0) ∨ (s = 2 ∧ n = b ∧ armB b = true ∧ t = 1 ∧ d = 0) ∨ (s = 3 ∧ n = 0 ∧ t = 1 ∧ d = 1)
theorem OnceOk.drop {s n t d b m s' n' : Int} (h : OnceOk s n t d b) (hd : tipDrop s n m = (s', n', 0)) : m = b ∧ t = 1 ∧ d = 0 ∧ OnceOk s' n' t (d + 1) b := by
  rw [tipDrop_eq] at hd
  unfold OnceOk at *
  rcases h with ⟨rfl, rfl, rfl, rfl, rfl⟩ | ⟨rfl, rfl, ha, rfl, rfl⟩ | ⟨rfl, rfl, rfl, rfl⟩
  · simp [tipRightB] at hd
    cases h9 : armB m <;> simp [h9] at hd
  · simp [tipRightB, ha] at hd
    cases h9 : armB m <;> simp [h9] at hd
    by_cases hm : n = m
    · simp [hm] at hd
      obtain ⟨rfl, rfl⟩ := hd
      exact ⟨hm.symm, rfl, rfl, .inr (.inr ⟨rfl, rfl, rfl, rfl⟩)⟩
    · simp [hm] at hd
  · simp [tipRightB] at hd
    cases h9 : armB m <;> simp [h9] at hd
theorem OnceOk.take {s n t d b m s' n' : Int} (h : OnceOk s n t d b) (hd : tipTake s n m = (s', n', 0)) : t = 0 ∧ d = 0 ∧ OnceOk s' n' (t + 1) d m := by
  rw [tipTake_eq] at hd
  unfold OnceOk at *
  rcases h with ⟨rfl, rfl, rfl, rfl, rfl⟩ | ⟨rfl, rfl, ha, rfl, rfl⟩ | ⟨rfl, rfl, rfl, rfl⟩
  · simp [tipRightB] at hd
    cases h9 : armB m <;> simp [h9] at hd
    obtain ⟨rfl, rfl⟩ := hd
    exact ⟨rfl, rfl, .inr (.inl ⟨rfl, rfl, rfl, rfl, rfl⟩)⟩
  · simp [tipRightB, ha] at hd
    cases h9 : armB m <;> simp [h9] at hd
  · simp [tipRightB] at hd
    cases h9 : armB m <;> simp [h9] at hd

set_option maxHeartbeats 400000 in
theorem tip_once (l : List (Bool × Int)) (v : Value) (w : World) (hl : DeedsAt w v l) : Calls Try.prog 5 #[v] w fun r w' => r = .returned (.bool true) ∧ Below w.heap.size w w' := by
  obtain ⟨a, cap, rfl, hm, hcells⟩ := hl
  have HC := Lib.hid hcells
  clear hcells
  unfold maxLen at hm
  go_enter Try.func5, Try.ntmps5
  go_wp2_with fail
  go_loopw [4, 5, 6, 7] (fun t d b i wr => ∃ (k : Nat) (s n t' d' b' : Int), k ≤ l.length ∧ i = .int .i64 k ∧ t = .int .i64 t' ∧ d = .int .i64 d' ∧ b = .int .i64 b' ∧ OnceOk s n t' d' b' ∧ Below w.heap.size w wr ∧ TipIn wr w.heap.size s n ∧
     wr.frozen? ⟨w.heap.size, 0, none⟩ = false ∧ wr.frozen? ⟨w.heap.size, 1, none⟩ = false) (fun _ _ _ i _ => l.length - (intOf i).toNat)
  case atStart => exact ⟨0, 1, 0, 0, 0, 0, Nat.zero_le _, rfl, rfl, rfl, rfl, .inl ⟨rfl, rfl, rfl, rfl, rfl⟩, (Below.refl _ _).alloc (Nat.le_refl _) _, TipIn.new _ _ _ _, by go_simp, by go_simp⟩
  case round =>
    obtain ⟨k, s, n, t, d, b, hk, rfl, rfl, rfl, rfl, hok, hbel, ⟨hs0, hs1, hs2⟩, hf0, hf1⟩ := hrel
    have HOK := Lib.hid hok
    clear hok
    by_cases hlt : k < l.length
    · obtain ⟨b0, off, rfl, hb0, hi⟩ := HC.out (by intro h; simp [h] at hlt)
      obtain ⟨hi0, hi1⟩ := hi k hlt
      rw [← hbel.cell (p := ⟨b0, _, none⟩) hb0] at hi0 hi1
      clear hi
      have hsz : b0 < wr.heap.size := by have := hbel.size; omega
      obtain ⟨dr, m, hget⟩ : ∃ dr m, l.getD k (false, 0) = (dr, m) := ⟨_, _, rfl⟩
      rw [hget] at hi0 hi1
      clear hget
      cases dr with
      | true =>
        obtain ⟨ds, dn, de, hD⟩ : ∃ ds dn de, tipDrop s n m = (ds, dn, de) := ⟨_, _, _, rfl⟩
        have HD := Lib.hid hD
        clear hD
        by_cases hde : de = 0
        · subst hde
          obtain ⟨rfl, rfl, rfl, hok2⟩ := HOK.out.drop HD.out
          have HOK2 := Lib.hid hok2
          clear hok2
          go_wp2_with fail
          go_region_held3 (fun w' => Below wr.heap.size wr w' ∧ (∀ b o, b < wr.heap.size → w'.cell? ⟨b, o, none⟩ = wr.cell? ⟨b, o, none⟩) ∧ ∀ b o, b < wr.heap.size → w'.frozen? ⟨b, o, none⟩ = wr.frozen? ⟨b, o, none⟩) (first | exact Keeps.atDraw _ | exact hB | exact Keeps.new hB _ | exact Keeps.new (by assumption) _ | exact Keeps.store (Keeps.store (by assumption) (by simp) _) (by simp) _ | exact Keeps.store (by assumption) (by simp) _)
            ((go_at_call 14; refine (tip_drop _ _ _ _).mono ?_; rintro e w1 ⟨rfl, hb⟩; simp only [HD.out]; have hB := Keeps.call hb (by assumption); obtain ⟨hc, hf⟩ := bcell hb))
          all_goals (rename_i hH; obtain ⟨hbW, hcW, hfW⟩ := hH)
          all_goals go_wp2
          all_goals exact ⟨⟨k + 1, ds, dn, 1, 1, m, hlt, by go_num, rfl, rfl, rfl, HOK2.out, ((bstep hbel (Nat.le_refl _) hbW).setCell (by simp) _).setCell (by simp) _, TipIn.put (TipIn.below ⟨hs0, hs1, hs2⟩ hbW) _ _, by go_simp, by go_simp⟩, by simp [intOf]; omega⟩
        · have hde' : (de == 0) = false := by simpa using hde
          go_wp2_with fail
          go_region_held3 (fun w' => Below wr.heap.size wr w' ∧ (∀ b o, b < wr.heap.size → w'.cell? ⟨b, o, none⟩ = wr.cell? ⟨b, o, none⟩) ∧ ∀ b o, b < wr.heap.size → w'.frozen? ⟨b, o, none⟩ = wr.frozen? ⟨b, o, none⟩) (first | exact Keeps.atDraw _ | exact hB | exact Keeps.new hB _ | exact Keeps.new (by assumption) _ | exact Keeps.store (Keeps.store (by assumption) (by simp) _) (by simp) _ | exact Keeps.store (by assumption) (by simp) _)
            ((go_at_call 14; refine (tip_drop _ _ _ _).mono ?_; rintro e w1 ⟨rfl, hb⟩; simp only [HD.out]; have hB := Keeps.call hb (by assumption); obtain ⟨hc, hf⟩ := bcell hb))
          all_goals (rename_i hH; obtain ⟨hbW, hcW, hfW⟩ := hH)
          all_goals go_wp2
          all_goals exact ⟨⟨k + 1, s, n, t, d, b, hlt, by go_num, rfl, rfl, rfl, HOK.out, bstep hbel (Nat.le_refl _) hbW, TipIn.below ⟨hs0, hs1, hs2⟩ hbW, by go_simp, by go_simp⟩, by simp [intOf]; omega⟩
      | false =>
        obtain ⟨ds, dn, de, hD⟩ : ∃ ds dn de, tipTake s n m = (ds, dn, de) := ⟨_, _, _, rfl⟩
        have HD := Lib.hid hD
        clear hD
        by_cases hde : de = 0
        · subst hde
          obtain ⟨rfl, rfl, hok2⟩ := HOK.out.take HD.out
          have HOK2 := Lib.hid hok2
          clear hok2
          go_wp2_with fail
          go_region_held3 (fun w' => Below wr.heap.size wr w' ∧ (∀ b o, b < wr.heap.size → w'.cell? ⟨b, o, none⟩ = wr.cell? ⟨b, o, none⟩) ∧ ∀ b o, b < wr.heap.size → w'.frozen? ⟨b, o, none⟩ = wr.frozen? ⟨b, o, none⟩) (first | exact Keeps.atDraw _ | exact hB | exact Keeps.new hB _ | exact Keeps.new (by assumption) _ | exact Keeps.store (Keeps.store (by assumption) (by simp) _) (by simp) _ | exact Keeps.store (by assumption) (by simp) _)
            ((go_at_call 13; refine (tip_take _ _ _ _).mono ?_; rintro e w1 ⟨rfl, hb⟩; simp only [HD.out]; have hB := Keeps.call hb (by assumption); obtain ⟨hc, hf⟩ := bcell hb))
          all_goals (rename_i hH; obtain ⟨hbW, hcW, hfW⟩ := hH)
          all_goals go_wp2
          all_goals exact ⟨⟨k + 1, ds, dn, 1, 0, m, hlt, by go_num, rfl, rfl, rfl, HOK2.out, ((bstep hbel (Nat.le_refl _) hbW).setCell (by simp) _).setCell (by simp) _, TipIn.put (TipIn.below ⟨hs0, hs1, hs2⟩ hbW) _ _, by go_simp, by go_simp⟩, by simp [intOf]; omega⟩
        · have hde' : (de == 0) = false := by simpa using hde
          go_wp2_with fail
          go_region_held3 (fun w' => Below wr.heap.size wr w' ∧ (∀ b o, b < wr.heap.size → w'.cell? ⟨b, o, none⟩ = wr.cell? ⟨b, o, none⟩) ∧ ∀ b o, b < wr.heap.size → w'.frozen? ⟨b, o, none⟩ = wr.frozen? ⟨b, o, none⟩) (first | exact Keeps.atDraw _ | exact hB | exact Keeps.new hB _ | exact Keeps.new (by assumption) _ | exact Keeps.store (Keeps.store (by assumption) (by simp) _) (by simp) _ | exact Keeps.store (by assumption) (by simp) _)
            ((go_at_call 13; refine (tip_take _ _ _ _).mono ?_; rintro e w1 ⟨rfl, hb⟩; simp only [HD.out]; have hB := Keeps.call hb (by assumption); obtain ⟨hc, hf⟩ := bcell hb))
          all_goals (rename_i hH; obtain ⟨hbW, hcW, hfW⟩ := hH)
          all_goals go_wp2
          all_goals exact ⟨⟨k + 1, s, n, t, d, b, hlt, by go_num, rfl, rfl, rfl, HOK.out, bstep hbel (Nat.le_refl _) hbW, TipIn.below ⟨hs0, hs1, hs2⟩ hbW, by go_simp, by go_simp⟩, by simp [intOf]; omega⟩
    · have hR : tipRightB s n = true := by
        rcases HOK.out with ⟨rfl, rfl, _, _, _⟩ | ⟨rfl, rfl, ha, _, _⟩ | ⟨rfl, rfl, _, _⟩
        · rfl
        · simpa [tipRightB] using ha
        · rfl
      rcases HOK.out with ⟨rfl, rfl, rfl, rfl, rfl⟩ | ⟨rfl, rfl, ha, rfl, rfl⟩ | ⟨rfl, rfl, rfl, rfl⟩
      all_goals clear HOK
      all_goals
        go_wp2_with fail
        refine (tip_lives _).mono ?_
        rintro e w1 ⟨rfl, hb⟩
        obtain ⟨q0, q1, q2⟩ := TipIn.below ⟨hs0, hs1, hs2⟩ hb
        have hbel1 := bstep hbel (Nat.le_refl _) hb
        clear hs0 hs1 hs2 hf0 hf1 hbel hb
        go_wp2_with fail
        refine (tip_right _ _ _).mono ?_
        rintro e w2 ⟨rfl, hb⟩
        simp only [hR]
        obtain ⟨r0, r1, r2⟩ := TipIn.below ⟨q0, q1, q2⟩ hb
        have hbel2 := bstep hbel1 (Nat.le_refl _) hb
        clear q0 q1 q2 hbel1 hb hR
        go_wp2_with fail
        go_ret
        exact ⟨rfl, hbel2⟩

end Go.Proofs.Ytdpinfigjeafpaa
