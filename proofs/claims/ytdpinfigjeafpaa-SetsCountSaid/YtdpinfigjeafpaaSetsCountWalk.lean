/- Walk of SetsCount: it returns true, and writes nothing that was there. -/
import Derived.Test.YtdpinfigjeafpaaSetWalks
namespace Go.Proofs.Ytdpinfigjeafpaa
open Go.RowKit
set_option linter.unusedVariables false
set_option linter.unusedSimpArgs false

theorem foldl_putL_length : ∀ (b s : List Int), s.Pairwise (· < ·) → b.Nodup → (b.foldl putL s).length = s.length + (b.filter fun n => !decide (n ∈ s)).length := by
  intro b
  induction b with
  | nil => intro s _ _; simp
  | cons a r ih =>
    intro s hs hb
    obtain ⟨h1, h2⟩ := List.nodup_cons.1 hb
    rw [List.foldl_cons, ih _ (putL_rise hs a) h2, putL_len_mem hs a]
    have e : (r.filter fun n => !decide (n ∈ putL s a)) = r.filter fun n => !decide (n ∈ s) := by
      apply List.filter_congr
      intro n hn
      have hna : n ≠ a := fun e => h1 (e ▸ hn)
      have : n ∈ putL s a ↔ n ∈ s := by rw [mem_putL]; simp [hna]
      simp [this]
    rw [e, List.filter_cons]
    by_cases ha : a ∈ s
    · simp [ha]
    · simp [ha]
      omega
theorem rise_nodup {a : List Int} (h : riseB a = true) : a.Nodup := ((rise_pairwise a).1 h).imp (fun h => by omega)
theorem filter_split (b : List Int) (p : Int → Bool) : (b.filter p).length + (b.filter fun n => !p n).length = b.length := by
  induction b with
  | nil => rfl
  | cons a r ih => cases h : p a <;> simp [List.filter_cons, h] <;> omega
theorem either_count {a b : List Int} (ha : riseB a = true) (hb : riseB b = true) : (eitherL a b).length + (bothL a b).length = a.length + b.length := by
  have h1 := foldl_putL_length b a ((rise_pairwise a).1 ha) (rise_nodup hb)
  have h2 := filter_split b fun n => decide (n ∈ a)
  have h3 : bothL a b = b.filter fun n => decide (n ∈ a) := rise_ext (bothL_rise b ha) (filter_rise _ hb) fun x => by rw [mem_bothL]; simp [and_comm]
  change (eitherL a b).length = _ at h1
  rw [h1, h3]
  omega
theorem count_laws {A B X Y Z : List Int} (ha : riseB A = true) (hb : riseB B = true) (hX : eitherL A B = X) (hY : bothL A B = Y) (hZ : eitherL (lessL A B) (lessL B A) = Z) :
    riseB X = true ∧ riseB Y = true ∧ riseB Z = true ∧ X.length + Y.length = A.length + B.length ∧ Y.length ≤ A.length ∧ Z.length ≤ A.length + B.length ∧
      apartB Z Y = true ∧ eitherL Z Y = X ∧ eitherL B A = X ∧ lessL X Z = Y := by
  have rX : riseB X = true := hX ▸ eitherL_rise B ha
  have rY : riseB Y = true := hY ▸ bothL_rise B ha
  have rZ : riseB Z = true := hZ ▸ eitherL_rise _ (lessL_rise B ha)
  have mX (x : Int) : x ∈ X ↔ x ∈ A ∨ x ∈ B := by rw [← hX, mem_eitherL]
  have mY (x : Int) : x ∈ Y ↔ x ∈ A ∧ x ∈ B := by rw [← hY, mem_bothL]
  have mZ (x : Int) : x ∈ Z ↔ (x ∈ A ∧ x ∉ B) ∨ (x ∈ B ∧ x ∉ A) := by rw [← hZ, mem_eitherL, mem_lessL, mem_lessL]
  refine ⟨rX, rY, rZ, ?_, ?_, ?_, ?_, ?_, ?_, ?_⟩
  · rw [← hX, ← hY]; exact either_count ha hb
  · rw [← hY]; exact List.length_filter_le _ _
  · rw [← hZ]
    have h1 := foldl_putL_len (lessL B A) (lessL A B)
    have h2 : (lessL A B).length ≤ A.length := List.length_filter_le _ _
    have h3 : (lessL B A).length ≤ B.length := List.length_filter_le _ _
    change (eitherL (lessL A B) (lessL B A)).length ≤ _ at h1
    omega
  · rw [apartB_iff]
    intro n h1 h2
    rw [mZ] at h1
    rw [mY] at h2
    rcases h1 with h | h
    · exact h.2 h2.2
    · exact h.2 h2.1
  · refine rise_ext (eitherL_rise _ rZ) rX fun x => ?_
    rw [mem_eitherL, mZ, mY, mX]
    by_cases h1 : x ∈ A <;> by_cases h2 : x ∈ B <;> simp [h1, h2]
  · refine rise_ext (eitherL_rise _ hb) rX fun x => ?_
    rw [mem_eitherL, mX]
    exact or_comm
  · refine rise_ext (lessL_rise _ rX) rY fun x => ?_
    rw [mem_lessL, mX, mZ, mY]
    by_cases h1 : x ∈ A <;> by_cases h2 : x ∈ B <;> simp [h1, h2]

set_option maxHeartbeats 1000000 in
theorem sets_count_law (l : List Int) (u : Value) (m : List Int) (v : Value) (w : World) (hl : IntsAt w u l) (hm : IntsAt w v m) : Calls Try.prog 12 #[u, v] w fun e w' => e = .returned (.bool true) ∧ Below w.heap.size w w' := by
  obtain ⟨a, ca, rfl, _⟩ := id hl
  obtain ⟨b, cb, rfl, _⟩ := id hm
  have hl2 : l.length ≤ 9223372036854775807 := by obtain ⟨_, _, h, h1, h2, _⟩ := hl; unfold maxLen at h2; omega
  have hm2 : m.length ≤ 9223372036854775807 := by obtain ⟨_, _, h, h1, h2, _⟩ := hm; unfold maxLen at h2; omega
  by_cases hlen : 200 < l.length
  · go_enter Try.func12, Try.ntmps12
    go_wp2_with fail
    refine (sets_lives _).mono ?_
    rintro e w1 ⟨rfl, hb1⟩
    go_wp2
    go_ret
    exact ⟨rfl, hb1⟩
  by_cases hlen2 : 200 < m.length
  · go_enter Try.func12, Try.ntmps12
    go_wp2_with fail
    refine (sets_lives _).mono ?_
    rintro e w1 ⟨rfl, hb1⟩
    go_wp2
    go_ret
    exact ⟨rfl, hb1⟩
  have q0 := hl
  have p0 := hm
  clear hl hm
  have lenA := fromL_len l
  have lenB := fromL_len m
  obtain ⟨A, hA⟩ : ∃ A, fromL l = A := ⟨_, rfl⟩
  obtain ⟨B, hB⟩ : ∃ B, fromL m = B := ⟨_, rfl⟩
  have ra : riseB A = true := by rw [← hA]; exact fromL_rise l
  have rb : riseB B = true := by rw [← hB]; exact fromL_rise m
  rw [hA] at lenA
  rw [hB] at lenB
  obtain ⟨X, hX⟩ : ∃ X, eitherL A B = X := ⟨_, rfl⟩
  obtain ⟨Y, hY⟩ : ∃ Y, bothL A B = Y := ⟨_, rfl⟩
  obtain ⟨Z, hZ⟩ : ∃ Z, eitherL (lessL A B) (lessL B A) = Z := ⟨_, rfl⟩
  obtain ⟨rx, ry, rz, l1, l2, l3, h1, h2, h3, h4⟩ := count_laws ra rb hX hY hZ
  have lA : (lessL A B).length ≤ A.length := List.length_filter_le _ _
  have lB : (lessL B A).length ≤ B.length := List.length_filter_le _ _
  have HFA := Lib.hid hA
  have HFB := Lib.hid hB
  have HX := Lib.hid hX
  have HY := Lib.hid hY
  have HZ := Lib.hid hZ
  have HA := Lib.hid ra
  have HB := Lib.hid rb
  have HRX := Lib.hid rx
  have HRY := Lib.hid ry
  have HRZ := Lib.hid rz
  have H1 := Lib.hid h1
  have H2 := Lib.hid h2
  have H3 := Lib.hid h3
  have H4 := Lib.hid h4
  have hne : (((X.length : Int) + Y.length) != ((A.length : Int) + B.length)) = false := by rw [bne_eq_false_iff_eq]; omega
  have lX : X.length ≤ A.length + B.length := by omega
  have lY : Y.length ≤ A.length := by omega
  clear hA hB hX hY hZ ra rb rx ry rz h1 h2 h3 h4 l1
  go_enter Try.func12, Try.ntmps12
  go_wp2_with fail
  refine (sets_from l _ _ q0 (by omega)).mono ?_
  rintro e w1 ⟨⟨v1, rfl, q1⟩, hb1⟩
  rw [HFA.out] at q1
  have hbel1 : Below w.heap.size w w1 := hb1
  replace q0 := q0.below hb1
  replace p0 := p0.below hb1
  clear hb1
  clear q0
  go_wp2_with fail
  refine (sets_from m _ _ p0 (by omega)).mono ?_
  rintro e w2 ⟨⟨v2, rfl, q2⟩, hb2⟩
  rw [HFB.out] at q2
  have hbel2 := bstep hbel1 (Nat.le_refl _) hb2
  replace p0 := p0.below hb2
  replace q1 := q1.below hb2
  clear hb2 hbel1
  clear p0
  go_wp2_with fail
  refine (sets_either A B _ _ _ q1 q2 (by omega) (by omega) HA.out HB.out).mono ?_
  rintro e w3 ⟨⟨v3, rfl, q3⟩, hb3⟩
  have hbel3 := bstep hbel2 (Nat.le_refl _) hb3
  replace q1 := q1.below hb3
  replace q2 := q2.below hb3
  clear hb3 hbel2
  go_wp2_with fail
  refine (sets_both A B _ _ _ q1 q2 (by omega) (by omega) HA.out HB.out).mono ?_
  rintro e w4 ⟨⟨v4, rfl, q4⟩, hb4⟩
  have hbel4 := bstep hbel3 (Nat.le_refl _) hb4
  replace q1 := q1.below hb4
  replace q2 := q2.below hb4
  replace q3 := q3.below hb4
  clear hb4 hbel3
  go_wp2_with fail
  refine (sets_lives _).mono ?_
  rintro e w5 ⟨rfl, hb5⟩
  have hbel5 := bstep hbel4 (Nat.le_refl _) hb5
  replace q1 := q1.below hb5
  replace q2 := q2.below hb5
  replace q3 := q3.below hb5
  replace q4 := q4.below hb5
  clear hb5 hbel4
  rw [HX.out] at q3
  rw [HY.out] at q4
  go_wp2_with fail
  refine (sets_right X _ _ q3).mono ?_
  rintro e w6 ⟨rfl, hb6⟩
  have hbel6 := bstep hbel5 (Nat.le_refl _) hb6
  replace q1 := q1.below hb6
  replace q2 := q2.below hb6
  replace q3 := q3.below hb6
  replace q4 := q4.below hb6
  clear hb6 hbel5
  simp only [HRX.out]
  go_wp2_with fail
  refine (sets_right Y _ _ q4).mono ?_
  rintro e w7 ⟨rfl, hb7⟩
  have hbel7 := bstep hbel6 (Nat.le_refl _) hb7
  replace q1 := q1.below hb7
  replace q2 := q2.below hb7
  replace q3 := q3.below hb7
  replace q4 := q4.below hb7
  clear hb7 hbel6
  simp only [HRY.out]
  obtain ⟨a1, c1, rfl, _⟩ := id q1
  obtain ⟨a2, c2, rfl, _⟩ := id q2
  obtain ⟨a3, c3, rfl, _⟩ := id q3
  obtain ⟨a4, c4, rfl, _⟩ := id q4
  go_wp2_with fail
  refine (sets_less A B _ _ _ q1 q2 (by omega) (by omega) HA.out HB.out).mono ?_
  rintro e w8 ⟨⟨v5, rfl, q5⟩, hb8⟩
  have hbel8 := bstep hbel7 (Nat.le_refl _) hb8
  replace q1 := q1.below hb8
  replace q2 := q2.below hb8
  replace q3 := q3.below hb8
  replace q4 := q4.below hb8
  clear hb8 hbel7
  go_wp2_with fail
  refine (sets_less B A _ _ _ q2 q1 (by omega) (by omega) HB.out HA.out).mono ?_
  rintro e w9 ⟨⟨v6, rfl, q6⟩, hb9⟩
  have hbel9 := bstep hbel8 (Nat.le_refl _) hb9
  replace q1 := q1.below hb9
  replace q2 := q2.below hb9
  replace q3 := q3.below hb9
  replace q4 := q4.below hb9
  replace q5 := q5.below hb9
  clear hb9 hbel8
  go_wp2_with fail
  refine (sets_either (lessL A B) (lessL B A) _ _ _ q5 q6 (by omega) (by omega) (lessL_rise _ HA.out) (lessL_rise _ HB.out)).mono ?_
  rintro e w10 ⟨⟨v7, rfl, q7⟩, hb10⟩
  have hbel10 := bstep hbel9 (Nat.le_refl _) hb10
  replace q1 := q1.below hb10
  replace q2 := q2.below hb10
  replace q3 := q3.below hb10
  replace q4 := q4.below hb10
  replace q5 := q5.below hb10
  replace q6 := q6.below hb10
  clear hb10 hbel9
  rw [HZ.out] at q7
  clear q5 q6
  go_wp2_with fail
  refine (sets_apart Z Y _ _ _ q7 q4 HRZ.out HRY.out).mono ?_
  rintro e w' ⟨rfl, rfl⟩
  simp only [H1.out]
  go_wp2_with fail
  refine (sets_either Z Y _ _ _ q7 q4 (by omega) (by omega) HRZ.out HRY.out).mono ?_
  rintro e w11 ⟨⟨v8, rfl, q8⟩, hb11⟩
  have hbel11 := bstep hbel10 (Nat.le_refl _) hb11
  replace q1 := q1.below hb11
  replace q2 := q2.below hb11
  replace q3 := q3.below hb11
  replace q4 := q4.below hb11
  replace q7 := q7.below hb11
  clear hb11 hbel10
  rw [H2.out] at q8
  go_wp2_with fail
  refine (ref03_same X X _ _ _ q8 q3).mono ?_
  rintro e w12 ⟨rfl, hb12⟩
  have hbel12 := bstep hbel11 (Nat.le_refl _) hb12
  replace q1 := q1.below hb12
  replace q2 := q2.below hb12
  replace q3 := q3.below hb12
  replace q4 := q4.below hb12
  replace q7 := q7.below hb12
  replace q8 := q8.below hb12
  clear hb12 hbel11
  simp only [decide_true]
  clear q8
  go_wp2_with fail
  refine (sets_either B A _ _ _ q2 q1 (by omega) (by omega) HB.out HA.out).mono ?_
  rintro e w13 ⟨⟨v9, rfl, q9⟩, hb13⟩
  have hbel13 := bstep hbel12 (Nat.le_refl _) hb13
  replace q1 := q1.below hb13
  replace q2 := q2.below hb13
  replace q3 := q3.below hb13
  replace q4 := q4.below hb13
  replace q7 := q7.below hb13
  clear hb13 hbel12
  rw [H3.out] at q9
  go_wp2_with fail
  refine (ref03_same X X _ _ _ q3 q9).mono ?_
  rintro e w14 ⟨rfl, hb14⟩
  have hbel14 := bstep hbel13 (Nat.le_refl _) hb14
  replace q1 := q1.below hb14
  replace q2 := q2.below hb14
  replace q3 := q3.below hb14
  replace q4 := q4.below hb14
  replace q7 := q7.below hb14
  replace q9 := q9.below hb14
  clear hb14 hbel13
  simp only [decide_true]
  clear q9
  go_wp2_with fail
  refine (sets_less X Z _ _ _ q3 q7 (by omega) (by omega) HRX.out HRZ.out).mono ?_
  rintro e w15 ⟨⟨v10, rfl, q10⟩, hb15⟩
  have hbel15 := bstep hbel14 (Nat.le_refl _) hb15
  replace q1 := q1.below hb15
  replace q2 := q2.below hb15
  replace q3 := q3.below hb15
  replace q4 := q4.below hb15
  replace q7 := q7.below hb15
  clear hb15 hbel14
  rw [H4.out] at q10
  go_wp2_with fail
  refine (ref03_same Y Y _ _ _ q10 q4).mono ?_
  rintro e w16 ⟨rfl, hb16⟩
  have hbel16 := bstep hbel15 (Nat.le_refl _) hb16
  replace q1 := q1.below hb16
  replace q2 := q2.below hb16
  replace q3 := q3.below hb16
  replace q4 := q4.below hb16
  replace q7 := q7.below hb16
  replace q10 := q10.below hb16
  clear hb16 hbel15
  simp only [decide_true]
  clear q10
  go_wp2_with fail
  go_ret
  exact ⟨rfl, hbel16⟩


end Go.Proofs.Ytdpinfigjeafpaa
