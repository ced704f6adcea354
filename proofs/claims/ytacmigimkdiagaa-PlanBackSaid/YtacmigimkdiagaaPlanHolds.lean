/- The walks of plan.Holds and of its reference. -/
import Derived.Test.YtacmigimkdiagaaPlanSame
namespace Go.Proofs.Ytacmigimkdiagaa
open Go.RowKit
set_option linter.unusedVariables false
set_option linter.unusedSimpArgs false

/-- A step of what is held. -/
def holdStep (o : List Int) (d : Int × Int) : List Int := if d.1 = 1 then putL o d.2 else if d.1 = 4 then lessL o [d.2] else o
def holdsL (l : List (Int × Int)) : List Int := l.foldl holdStep []
theorem holdsL_snoc {l : List (Int × Int)} {k : Nat} {d : Int × Int} (h : l[k]? = some d) : holdsL (l.take (k + 1)) = holdStep (holdsL (l.take k)) d := by
  unfold holdsL
  rw [List.take_add_one, h, Option.toList_some, List.foldl_append]
  rfl
theorem rise_one (n : Int) : riseB [n] = true := rfl
theorem putL_rise_b {s : List Int} (hs : riseB s = true) (n : Int) : riseB (putL s n) = true := (rise_pairwise _).2 (putL_rise ((rise_pairwise _).1 hs) n)
theorem holdStep_rise {o : List Int} (h : riseB o = true) (d : Int × Int) : riseB (holdStep o d) = true := by
  unfold holdStep
  split
  · exact putL_rise_b h _
  · split
    · exact lessL_rise _ h
    · exact h
theorem holds_rise (l : List (Int × Int)) : riseB (holdsL l) = true := by
  unfold holdsL
  have : ∀ (l : List (Int × Int)) (o : List Int), riseB o = true → riseB (l.foldl holdStep o) = true := by
    intro l
    induction l with
    | nil => exact fun o h => h
    | cons d l ih => exact fun o h => ih _ (holdStep_rise h d)
  exact this l [] rfl
theorem holds_len (l : List (Int × Int)) : (holdsL l).length ≤ l.length := by
  unfold holdsL
  have : ∀ (l : List (Int × Int)) (o : List Int), (l.foldl holdStep o).length ≤ o.length + l.length := by
    intro l
    induction l with
    | nil => intro o; simp
    | cons d l ih =>
      intro o
      have h1 := ih (holdStep o d)
      have h2 : (holdStep o d).length ≤ o.length + 1 := by
        unfold holdStep
        split
        · exact putL_len _ _
        · split
          · have : (lessL o [d.2]).length ≤ o.length := List.length_filter_le _ _
            omega
          · omega
      simp only [List.foldl_cons, List.length_cons]
      omega
  simpa using this l []

set_option maxHeartbeats 1600000 in
theorem plan_holds (l : List (Int × Int)) (v : Value) (k : Int) (w : World) (hl : PlanAt w v l) (hlen : l.length ≤ 10000000) :
    Calls Try.prog 22 #[v, .int .i64 k] w fun r w' => GivesInts w (holdsL (l.take k.toNat)) r w' := by
  have HL := Lib.hid hl
  obtain ⟨a, ca, rfl, hl1, hl2, hl3, hl4⟩ := hl
  clear hl3 hl4
  unfold maxLen at hl2
  go_enter Try.func22, Try.ntmps22
  go_wp2
  go_loopw [5, 10] (fun o i wr => ∃ j : Nat, j ≤ l.length ∧ (j : Int) ≤ max k 0 ∧ i = .int .i64 j ∧ Hid (IntsAt wr o (holdsL (l.take j))) ∧ Below w.heap.size w wr) (fun _ i _ => l.length - (intOf i).toNat)
  case atStart => exact ⟨0, Nat.zero_le _, by omega, rfl, IntsAt.nil _, Below.refl _ _⟩
  case round =>
    obtain ⟨j, hj, hjk, rfl, HO, hbel⟩ := hrel
    have hsz := hbel.size
    have hlj := holds_len (l.take j)
    have hltj : (l.take j).length ≤ j := List.length_take_le _ _
    have HRI := Lib.hid (holds_rise (l.take j))
    by_cases hlt : j < l.length
    · obtain ⟨b1, o1, d, rfl, hb1, hkd, c1, c2⟩ := PlanAt.get2 (HL.out.below hbel) hlt
      have HS := Lib.hid (holdsL_snoc hkd)
      obtain ⟨dk, di⟩ := d
      simp only at c1 c2
      clear hkd
      by_cases hge : k ≤ j
      · have HE := Lib.hid (show l.take k.toNat = l.take j by congr 1; omega)
        go_wp2
        go_ret
        exact ⟨⟨_, rfl, by rw [HE.out]; exact (HO.out.alloc _)⟩, hbel.alloc hsz _⟩
      · cases h1 : (dk == 1) with
        | true =>
          have HST := Lib.hid (show holdsL (l.take (j + 1)) = eitherL (holdsL (l.take j)) [di] by rw [HS.out]; unfold holdStep; rw [if_pos (by simpa using h1)]; rfl)
          go_wp2_with fail
          refine (sets_either _ [di] _ _ _ ((HO.out.alloc _).alloc _) (IntsAt.lit_at _ [di] (by simp [maxLen]) (by simp)) (by omega) (by simp) HRI.out (rise_one _)).mono ?_
          rintro r w2 ⟨⟨v2, rfl, h2⟩, hb2⟩
          have H2 := Lib.hid h2
          have hbel2 : Below w.heap.size w w2 := bstep2 hbel (Nat.le_refl _) hb2
          clear h2 hb2
          go_wp2
          exact ⟨⟨j + 1, hlt, by omega, by go_num, by rw [HST.out]; exact H2.out, hbel2⟩, by simp [intOf]; omega⟩
        | false =>
          cases h4 : (dk == 4) with
          | true =>
            have HST := Lib.hid (show holdsL (l.take (j + 1)) = lessL (holdsL (l.take j)) [di] by rw [HS.out]; unfold holdStep; rw [if_neg (by simpa using h1), if_pos (by simpa using h4)])
            go_wp2_with fail
            refine (sets_less _ [di] _ _ _ ((HO.out.alloc _).alloc _) (IntsAt.lit_at _ [di] (by simp [maxLen]) (by simp)) (by omega) (by simp) HRI.out (rise_one _)).mono ?_
            rintro r w2 ⟨⟨v2, rfl, h2⟩, hb2⟩
            have H2 := Lib.hid h2
            have hbel2 : Below w.heap.size w w2 := bstep2 hbel (Nat.le_refl _) hb2
            clear h2 hb2
            go_wp2
            exact ⟨⟨j + 1, hlt, by omega, by go_num, by rw [HST.out]; exact H2.out, hbel2⟩, by simp [intOf]; omega⟩
          | false =>
            have HST := Lib.hid (show holdsL (l.take (j + 1)) = holdsL (l.take j) by rw [HS.out]; unfold holdStep; rw [if_neg (by simpa using h1), if_neg (by simpa using h4)])
            go_wp2
            exact ⟨⟨j + 1, hlt, by omega, by go_num, by rw [HST.out]; exact HO.out.alloc _, hbel.alloc hsz _⟩, by simp [intOf]; omega⟩
    · obtain rfl : j = l.length := by omega
      have HE := Lib.hid (show l.take k.toNat = l.take l.length by rw [List.take_length, List.take_of_length_le (by omega)])
      go_wp2
      go_ret
      exact ⟨⟨_, rfl, by rw [HE.out]; exact HO.out⟩, hbel⟩

set_option maxHeartbeats 1600000 in
theorem ref18_holds (l : List (Int × Int)) (v : Value) (k : Int) (w : World) (hl : PlanAt w v l) (hlen : l.length ≤ 10000000) :
    Calls Try.prog 23 #[v, .int .i64 k] w fun r w' => GivesInts w (holdsL (l.take k.toNat)) r w' := by
  have HL := Lib.hid hl
  obtain ⟨a, ca, rfl, hl1, hl2, hl3, hl4⟩ := hl
  clear hl3 hl4
  unfold maxLen at hl2
  go_enter Try.func23, Try.ntmps23
  go_wp2
  go_loopw [5, 6] (fun o i wr => ∃ j : Nat, j ≤ l.length ∧ (j : Int) ≤ max k 0 ∧ i = .int .i64 j ∧ Hid (IntsAt wr o (holdsL (l.take j))) ∧ Below w.heap.size w wr) (fun _ i _ => l.length - (intOf i).toNat)
  case atStart => exact ⟨0, Nat.zero_le _, by omega, rfl, IntsAt.nil _, Below.refl _ _⟩
  case round =>
    obtain ⟨j, hj, hjk, rfl, HO, hbel⟩ := hrel
    have hsz := hbel.size
    have hlj := holds_len (l.take j)
    have hltj : (l.take j).length ≤ j := List.length_take_le _ _
    by_cases hlt : j < l.length
    · obtain ⟨b1, o1, d, rfl, hb1, hkd, c1, c2⟩ := PlanAt.get2 (HL.out.below hbel) hlt
      have HS := Lib.hid (holdsL_snoc hkd)
      obtain ⟨dk, di⟩ := d
      simp only at c1 c2
      clear hkd
      by_cases hge : k ≤ j
      · have HE := Lib.hid (show l.take k.toNat = l.take j by congr 1; omega)
        go_wp2
        go_ret
        exact ⟨⟨_, rfl, by rw [HE.out]; exact HO.out⟩, hbel⟩
      · cases h1 : (dk == 1) with
        | true =>
          have h4 : (dk == 4) = false := by
            have : dk = 1 := by simpa using h1
            subst this
            rfl
          have HST := Lib.hid (show holdsL (l.take (j + 1)) = putL (holdsL (l.take j)) di by rw [HS.out]; unfold holdStep; rw [if_pos (by simpa using h1)])
          go_wp2_with fail
          refine (ref04_put _ _ di _ HO.out (by omega)).mono ?_
          rintro r w2 ⟨⟨v2, rfl, h2⟩, hb2⟩
          have H2 := Lib.hid h2
          have hbel2 : Below w.heap.size w w2 := bstep hbel (Nat.le_refl _) hb2
          rw [← hb2.cell (p := ⟨b1, _, none⟩) hb1] at c1 c2
          clear h2 hb2
          go_wp2
          exact ⟨⟨j + 1, hlt, by omega, by go_num, by rw [HST.out]; exact H2.out, hbel2⟩, by simp [intOf]; omega⟩
        | false =>
          cases h4 : (dk == 4) with
          | true =>
            have HST := Lib.hid (show holdsL (l.take (j + 1)) = lessL (holdsL (l.take j)) [di] by rw [HS.out]; unfold holdStep; rw [if_neg (by simpa using h1), if_pos (by simpa using h4)])
            go_wp2_with fail
            refine (ref04_less _ [di] _ _ _ (HO.out.alloc _) (IntsAt.lit1 _ di) (by omega)).mono ?_
            rintro r w2 ⟨⟨v2, rfl, h2⟩, hb2⟩
            have H2 := Lib.hid h2
            have hbel2 : Below w.heap.size w w2 := bstep1 hbel (Nat.le_refl _) hb2
            clear h2 hb2
            go_wp2
            exact ⟨⟨j + 1, hlt, by omega, by go_num, by rw [HST.out]; exact H2.out, hbel2⟩, by simp [intOf]; omega⟩
          | false =>
            have HST := Lib.hid (show holdsL (l.take (j + 1)) = holdsL (l.take j) by rw [HS.out]; unfold holdStep; rw [if_neg (by simpa using h1), if_neg (by simpa using h4)])
            go_wp2
            exact ⟨⟨j + 1, hlt, by omega, by go_num, by rw [HST.out]; exact HO.out, hbel⟩, by simp [intOf]; omega⟩
    · obtain rfl : j = l.length := by omega
      have HE := Lib.hid (show l.take k.toNat = l.take l.length by rw [List.take_length, List.take_of_length_le (by omega)])
      go_wp2
      go_ret
      exact ⟨⟨_, rfl, by rw [HE.out]; exact HO.out⟩, hbel⟩

end Go.Proofs.Ytacmigimkdiagaa
