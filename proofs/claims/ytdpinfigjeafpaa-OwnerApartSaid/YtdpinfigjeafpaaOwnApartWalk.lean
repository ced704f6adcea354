/- The walk of law 14: OwnerApart: it returns true, and writes nothing that was there. -/
import Derived.Test.YtdpinfigjeafpaaOwnLives
namespace Go.Proofs.Ytdpinfigjeafpaa
open Go.RowKit
set_option linter.unusedVariables false
set_option linter.unusedSimpArgs false

set_option maxHeartbeats 2000000 in
set_option maxRecDepth 100000 in
theorem owner_apart_law (o : List Int) (u : Value) (a : List Int) (v : Value) (b : List Int) (v' : Value) (x y : Int) (w : World) (ho : IntsAt w u o) (ha : IntsAt w v a) (hb : IntsAt w v' b) :
    Calls Try.prog 9 #[u, v, v', .int .i64 x, .int .i64 y] w fun e w' => e = .returned (.bool true) ∧ Below w.heap.size w w' := by
  obtain ⟨a1, c1, rfl, _⟩ := id ho
  obtain ⟨a2, c2, rfl, _⟩ := id ha
  obtain ⟨a3, c3, rfl, _⟩ := id hb
  have hl2 : o.length ≤ 9223372036854775807 := by obtain ⟨_, _, h, h1, h2, _⟩ := ho; unfold maxLen at h2; omega
  have hm2 : a.length ≤ 9223372036854775807 := by obtain ⟨_, _, h, h1, h2, _⟩ := ha; unfold maxLen at h2; omega
  have hn2 : b.length ≤ 9223372036854775807 := by obtain ⟨_, _, h, h1, h2, _⟩ := hb; unfold maxLen at h2; omega
  by_cases hg1 : 1000 < o.length
  · go_enter Try.func9, Try.ntmps9
    go_wp2_with fail
    refine (own_lives _).mono ?_
    rintro e w1 ⟨rfl, hb1⟩
    go_wp2
    go_ret
    exact ⟨rfl, hb1⟩
  by_cases hg2 : 1000 < a.length
  · go_enter Try.func9, Try.ntmps9
    go_wp2_with fail
    refine (own_lives _).mono ?_
    rintro e w1 ⟨rfl, hb1⟩
    go_wp2
    go_ret
    exact ⟨rfl, hb1⟩
  by_cases hg3 : 1000 < b.length
  · go_enter Try.func9, Try.ntmps9
    go_wp2_with fail
    refine (own_lives _).mono ?_
    rintro e w1 ⟨rfl, hb1⟩
    go_wp2
    go_ret
    exact ⟨rfl, hb1⟩
  obtain ⟨P', hP⟩ : ∃ R, takeR o (fromL a) x = R := ⟨_, rfl⟩
  obtain ⟨P, p2, p3⟩ := P'
  have HP := Lib.hid hP
  obtain ⟨Q', hQ⟩ : ∃ R, takeR o (lessL (fromL b) (fromL a)) y = R := ⟨_, rfl⟩
  obtain ⟨Q, q2', q3'⟩ := Q'
  have HQ := Lib.hid hQ
  have hdis : ∀ n ∈ lessL (fromL b) (fromL a), n ∉ fromL a := fun n hn => ((mem_lessL _ _ _).1 hn).2
  have lenb := fromL_len b
  have HA := Lib.hid (fun (e1 : p3 = 0) (e2 : q3' = 0) => apart_law (o := o) (s := fromL a) (t := lessL (fromL b) (fromL a)) (x := x) (y := y) hdis (by rw [hP]; exact e1) (by rw [hQ]; exact e2))
  clear hP hQ hdis
  have q0 := ho
  have pa := ha
  have pb := hb
  clear ho ha hb
  go_enter Try.func9, Try.ntmps9
  go_wp2_with fail
  refine (ref04_from a _ _ pa (by omega)).mono ?_
  rintro e w1 ⟨⟨v1, rfl, q1⟩, hb1⟩
  have hbel1 : Below w.heap.size w w1 := hb1
  replace q0 := q0.below hb1
  replace pa := pa.below hb1
  replace pb := pb.below hb1
  clear hb1
  clear pa
  go_wp2_with fail
  refine (ref04_from b _ _ pb (by omega)).mono ?_
  rintro e w2 ⟨⟨v2, rfl, q2⟩, hb2⟩
  have hbel2 := bstep hbel1 (Nat.le_refl _) hb2
  replace q0 := q0.below hb2
  replace pb := pb.below hb2
  replace q1 := q1.below hb2
  clear hb2 hbel1
  clear pb
  go_wp2_with fail
  refine (ref04_less (fromL b) (fromL a) _ _ _ q2 q1 (by omega)).mono ?_
  rintro e w3 ⟨⟨v3, rfl, q3⟩, hb3⟩
  have hbel3 := bstep hbel2 (Nat.le_refl _) hb3
  replace q0 := q0.below hb3
  replace q1 := q1.below hb3
  replace q2 := q2.below hb3
  clear hb3 hbel2
  clear q2
  go_wp2_with fail
  refine (owner_take o (fromL a) _ _ x _ q0 q1 (by omega)).mono ?_
  rintro e w4 ⟨⟨v4, rfl, q4⟩, hb4⟩
  have hbel4 := bstep hbel3 (Nat.le_refl _) hb4
  replace q0 := q0.below hb4
  replace q1 := q1.below hb4
  replace q3 := q3.below hb4
  clear hb4 hbel3
  simp only [HP.out] at q4 ⊢
  go_wp2_with fail
  refine (owner_take o (lessL (fromL b) (fromL a)) _ _ y _ q0 q3 (by omega)).mono ?_
  rintro e w5 ⟨⟨v5, rfl, q5⟩, hb5⟩
  have hbel5 := bstep hbel4 (Nat.le_refl _) hb5
  replace q0 := q0.below hb5
  replace q1 := q1.below hb5
  replace q3 := q3.below hb5
  replace q4 := q4.below hb5
  clear hb5 hbel4
  simp only [HQ.out] at q5 ⊢
  go_wp2_with fail
  refine (own_lives _).mono ?_
  rintro e w6 ⟨rfl, hb6⟩
  have hbel6 := bstep hbel5 (Nat.le_refl _) hb6
  replace q0 := q0.below hb6
  replace q1 := q1.below hb6
  replace q3 := q3.below hb6
  replace q4 := q4.below hb6
  replace q5 := q5.below hb6
  clear hb6 hbel5
  by_cases he : p3 = 0 ∧ q3' = 0
  · obtain ⟨rfl, rfl⟩ := he
    obtain ⟨P1, Q1, U, e1, e2, e3, e4, e5, e6⟩ := HA.out rfl rfl
    rw [HP.out] at e1
    rw [HQ.out] at e2
    simp only [Prod.mk.injEq] at e1 e2
    obtain ⟨rfl, rfl, _⟩ := e1
    obtain ⟨rfl, rfl, _⟩ := e2
    have HU := Lib.hid e5
    have HV := Lib.hid e6
    have e3' : P.length ≤ 1000 := by omega
    have e4' : Q.length ≤ 1000 := by omega
    clear e3 e4 e5 e6 HA
    clear q0
    go_wp2_with fail
    refine (owner_take P (lessL (fromL b) (fromL a)) _ _ y _ q4 q3 (by omega)).mono ?_
    rintro e w7 ⟨⟨v7, rfl, q7⟩, hb7⟩
    have hbel7 := bstep hbel6 (Nat.le_refl _) hb7
    replace q1 := q1.below hb7
    replace q3 := q3.below hb7
    replace q4 := q4.below hb7
    replace q5 := q5.below hb7
    clear hb7 hbel6
    simp only [HU.out] at q7 ⊢
    go_wp2_with fail
    refine (owner_take Q (fromL a) _ _ x _ q5 q1 (by omega)).mono ?_
    rintro e w8 ⟨⟨v8, rfl, q8⟩, hb8⟩
    have hbel8 := bstep hbel7 (Nat.le_refl _) hb8
    replace q1 := q1.below hb8
    replace q3 := q3.below hb8
    replace q4 := q4.below hb8
    replace q5 := q5.below hb8
    replace q7 := q7.below hb8
    clear hb8 hbel7
    simp only [HV.out] at q8 ⊢
    go_wp2_with fail
    refine (ref03_same U U _ _ _ q7 q8).mono ?_
    rintro e w9 ⟨rfl, hb9⟩
    have hbel9 := bstep hbel8 (Nat.le_refl _) hb9
    replace q1 := q1.below hb9
    replace q3 := q3.below hb9
    replace q4 := q4.below hb9
    replace q5 := q5.below hb9
    replace q7 := q7.below hb9
    replace q8 := q8.below hb9
    clear hb9 hbel8
    simp only [decide_true]
    go_wp2_with fail
    go_ret
    exact ⟨rfl, hbel9⟩
  · have hor : (p3 != 0) = true ∨ ((p3 != 0) = false ∧ (q3' != 0) = true) := by
      by_cases h1 : p3 = 0
      · by_cases h2 : q3' = 0
        · exact absurd ⟨h1, h2⟩ he
        · exact .inr ⟨by simpa using h1, by simpa using h2⟩
      · exact .inl (by simpa using h1)
    clear he HA
    rcases hor with h1 | ⟨h1, h2⟩
    all_goals
      go_wp2_with fail
      refine (own_lives _).mono ?_
      rintro e w7 ⟨rfl, hb7⟩
      have hbel7 := bstep hbel6 (Nat.le_refl _) hb7
      go_wp2
      go_ret
      exact ⟨rfl, hbel7⟩

end Go.Proofs.Ytdpinfigjeafpaa
