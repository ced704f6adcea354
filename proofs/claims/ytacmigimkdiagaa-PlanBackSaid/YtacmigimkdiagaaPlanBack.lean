/- Walks of plan.Back and of the reference's Back and Make. -/
import Derived.Test.YtacmigimkdiagaaPlanMake
namespace Go.Proofs.Ytacmigimkdiagaa
open Go.RowKit
set_option linter.unusedVariables false
set_option linter.unusedSimpArgs false

def wayB (ids : List Int) (k : Int) : List (Int × Int) := if riseB ids then wayL (ids.take k.toNat) else []

set_option maxHeartbeats 1600000 in
theorem plan_back (ids : List Int) (v : Value) (k : Int) (w : World) (hi : IntsAt w v ids) (hlen : ids.length ≤ 10000000) :
    Calls Try.prog 15 #[v, .int .i64 k] w fun r w' => GivesPlan w (wayB ids k) r w' := by
  have HI := Lib.hid hi
  obtain ⟨a, ca, rfl, hl1, hl2, hl3, hl4⟩ := hi
  clear hl3 hl4
  unfold maxLen at hl2
  go_enter Try.func15, Try.ntmps15
  go_wp2_with fail
  refine (sets_right ids _ _ HI.out).mono ?_
  rintro r w1 ⟨rfl, hb1⟩
  replace HI := Lib.hid (HI.out.below hb1)
  cases hr : riseB ids with
  | false =>
    have HP := Lib.hid (show wayB ids k = [] by unfold wayB; rw [hr]; rfl)
    clear hr
    go_wp2
    go_ret
    exact ⟨⟨_, rfl, by rw [HP.out]; exact RowsAt.nil _ _ _⟩, hb1⟩
  | true =>
    have HP := Lib.hid (show wayB ids k = wayL (ids.take k.toNat) by unfold wayB; rw [hr]; rfl)
    clear hr
    have hcase : k < 0 ∨ (0 ≤ k ∧ k ≤ ids.length) ∨ ids.length < k := by omega
    rcases hcase with hk | ⟨hk1, hk2⟩ | hk
    · go_wp2_with fail
      have hnew : ListAt (w1.alloc (.cells #[.slice none 0 0] 52)) w1.heap.size [] := ⟨.slice none 0 0, by go_simp, by go_simp, OwnRows.nil _ _ _ _ _⟩
      refine (list_back w1.heap.size _ _ [] w1 _ hnew (show IntsAt w1 (.slice a 0 ca) [] from by simpa using HI.out.front (Nat.zero_le _)) ((Below.refl _ _).alloc (Nat.le_refl _) _) (Nat.le_refl _) (by first | (simp; done) | (simp; omega))).mono ?_
      rintro r w4 ⟨rfl, ⟨v4, c4, f4, o4⟩, hb4⟩
      have H4 := Lib.hid (OwnRows.rows deedRow_len o4)
      have hbel4 := bstep hb1 (Nat.le_refl _) (((Below.refl _ _).alloc (Nat.le_refl _) _).trans hb4)
      have HEQ := Lib.hid (show wayL (ids.take k.toNat) = wayL [] from by rw [show k.toNat = 0 from by omega, List.take_zero])
      clear f4 o4 hb4 hnew
      go_wp2
      go_ret
      exact ⟨⟨_, rfl, by rw [HP.out, HEQ.out]; exact H4.out⟩, hbel4⟩
    · go_wp2_with fail
      have hnew : ListAt (w1.alloc (.cells #[.slice none 0 0] 52)) w1.heap.size [] := ⟨.slice none 0 0, by go_simp, by go_simp, OwnRows.nil _ _ _ _ _⟩
      refine (list_back w1.heap.size _ _ [] w1 _ hnew (HI.out.front (show k.toNat ≤ ids.length by omega)) ((Below.refl _ _).alloc (Nat.le_refl _) _) (Nat.le_refl _) (by first | (simp; done) | (simp; omega))).mono ?_
      rintro r w4 ⟨rfl, ⟨v4, c4, f4, o4⟩, hb4⟩
      have H4 := Lib.hid (OwnRows.rows deedRow_len o4)
      have hbel4 := bstep hb1 (Nat.le_refl _) (((Below.refl _ _).alloc (Nat.le_refl _) _).trans hb4)
      clear f4 o4 hb4 hnew
      go_wp2
      go_ret
      exact ⟨⟨_, rfl, by rw [HP.out]; exact H4.out⟩, hbel4⟩
    · go_wp2_with fail
      have hnew : ListAt (w1.alloc (.cells #[.slice none 0 0] 52)) w1.heap.size [] := ⟨.slice none 0 0, by go_simp, by go_simp, OwnRows.nil _ _ _ _ _⟩
      refine (list_back w1.heap.size _ _ [] w1 _ hnew (HI.out) ((Below.refl _ _).alloc (Nat.le_refl _) _) (Nat.le_refl _) (by first | (simp; done) | (simp; omega))).mono ?_
      rintro r w4 ⟨rfl, ⟨v4, c4, f4, o4⟩, hb4⟩
      have H4 := Lib.hid (OwnRows.rows deedRow_len o4)
      have hbel4 := bstep hb1 (Nat.le_refl _) (((Below.refl _ _).alloc (Nat.le_refl _) _).trans hb4)
      have HEQ := Lib.hid (show wayL (ids.take k.toNat) = wayL ids from by rw [List.take_of_length_le (by omega)])
      clear f4 o4 hb4 hnew
      go_wp2
      go_ret
      exact ⟨⟨_, rfl, by rw [HP.out, HEQ.out]; exact H4.out⟩, hbel4⟩

set_option maxHeartbeats 1600000 in
theorem ref18_back (ids : List Int) (v : Value) (k : Int) (w : World) (hi : IntsAt w v ids) (hlen : ids.length ≤ 10000000) :
    Calls Try.prog 16 #[v, .int .i64 k] w fun r w' => GivesPlan w (wayB ids k) r w' := by
  have HI := Lib.hid hi
  obtain ⟨a, ca, rfl, hl1, hl2, hl3, hl4⟩ := hi
  clear hl3 hl4
  unfold maxLen at hl2
  go_enter Try.func16, Try.ntmps16
  go_wp2_with fail
  refine (ref04_right ids _ _ HI.out).mono ?_
  rintro r w1 ⟨rfl, hb1⟩
  replace HI := Lib.hid (HI.out.below hb1)
  cases hr : riseB ids with
  | false =>
    have HP := Lib.hid (show wayB ids k = [] by unfold wayB; rw [hr]; rfl)
    clear hr
    go_wp2
    go_ret
    exact ⟨⟨_, rfl, by rw [HP.out]; exact RowsAt.nil _ _ _⟩, hb1⟩
  | true =>
    have HP := Lib.hid (show wayB ids k = wayL (ids.take k.toNat) by unfold wayB; rw [hr]; rfl)
    clear hr
    go_wp2
    go_loopw [5, 6] (fun o i wr => ∃ j : Nat, j ≤ ids.length ∧ i = .int .i64 ((j : Int) - 1) ∧ Hid (OwnPlan wr w1.heap.size o (frees ((ids.take k.toNat).drop j))) ∧ Below w1.heap.size w1 wr) (fun _ i _ => (intOf i + 1).toNat)
    case atStart => exact ⟨ids.length, Nat.le_refl _, rfl, by rw [List.drop_eq_nil_of_le (by rw [List.length_take]; omega)]; exact OwnRows.nil _ _ _ _ _, Below.refl _ _⟩
    case round =>
      obtain ⟨j, hj, rfl, HO, hbel⟩ := hrel
      have hsz := hbel.size
      by_cases hpos : 0 < j
      · obtain ⟨m, rfl⟩ : ∃ m, j = m + 1 := ⟨j - 1, by omega⟩
        have hm1 : ((m + 1 : Nat) : Int) - 1 = (m : Int) := by omega
        simp only [hm1]
        obtain ⟨b1, o1, rfl, hb1', c1⟩ := (HI.out.below hbel).get (show m < ids.length by omega)
        obtain ⟨x, hx⟩ : ∃ x, ids.getD m 0 = x := ⟨_, rfl⟩
        have hxm : ids[m]? = some x := by rw [← hx]; exact getD_get (by omega)
        rw [hx] at c1
        clear hx
        have hfl : (frees ((ids.take k.toNat).drop (m + 1))).length ≤ ids.length := by rw [frees_len, List.length_drop, List.length_take]; omega
        by_cases hlt : (m : Int) < k
        · have HS := Lib.hid (frees_drop (ids := ids.take k.toNat) (j := m) (x := x) (by rw [List.getElem?_take, if_pos (by omega)]; exact hxm))
          clear hxm
          go_wp2_with (at_builtin; refine wpList_append_rows deedRow_len deedRow_one rfl (.tmp 20) (.tmp 26) 25 rfl w1.heap.size 36 _ 16 Try.underlying25 infoDeed rfl (by decide) (by decide) _ _ rfl (HO.out.alloc _) _ [(4, x)] rfl (RowsAt.lit deedRow_len _ _ [(4, x)] (by simp [maxLen])) ?_ ?_ ?_)
          · simp only [List.length_singleton]
            omega
          · simp
            omega
          intro v1 w5 hown5 hg5 hb5
          have HO5 := Lib.hid hown5
          have hbel5 : Below w1.heap.size w1 w5 := (hbel.alloc hsz _).trans hb5
          clear hg5 hb5 hown5
          go_wp2
          refine ⟨⟨m, by omega, rfl, ?_, hbel5⟩, by simp [intOf]⟩
          rw [HS.out]
          exact HO5.out
        · have HS := Lib.hid (show (ids.take k.toNat).drop m = (ids.take k.toNat).drop (m + 1) by rw [List.drop_eq_nil_of_le (by rw [List.length_take]; omega), List.drop_eq_nil_of_le (by rw [List.length_take]; omega)])
          clear hxm
          go_wp2
          refine ⟨⟨m, by omega, rfl, ?_, hbel⟩, by simp [intOf]⟩
          rw [HS.out]
          exact HO.out
      · obtain rfl : j = 0 := by omega
        rw [List.drop_zero] at HO
        have hfl : (frees (ids.take k.toNat)).length ≤ ids.length := by rw [frees_len, List.length_take]; omega
        go_wp2_with (at_builtin; refine wpList_append_rows deedRow_len deedRow_one rfl (.tmp 28) (.tmp 30) 25 rfl w1.heap.size 36 _ 16 Try.underlying25 infoDeed rfl (by decide) (by decide) _ _ rfl (HO.out.alloc _) _ [(5, 0)] rfl (RowsAt.lit deedRow_len _ _ [(5, 0)] (by simp [maxLen])) ?_ ?_ ?_)
        · simp only [List.length_singleton]
          omega
        · simp
          omega
        intro v1 w5 hown5 hg5 hb5
        have H5 := Lib.hid (OwnRows.rows deedRow_len hown5)
        have hbel5 : Below w1.heap.size w1 w5 := (hbel.alloc hsz _).trans hb5
        clear hg5 hb5 hown5
        go_wp2
        go_ret
        exact ⟨⟨_, rfl, by rw [HP.out]; exact H5.out⟩, bstep hb1 (Nat.le_refl _) hbel5⟩

set_option maxHeartbeats 1600000 in
theorem ref18_make (ids : List Int) (v : Value) (looks : Bool) (w : World) (hi : IntsAt w v ids) (hlen : ids.length ≤ 10000000) :
    Calls Try.prog 14 #[v, .bool looks] w fun r w' => GivesPlan w (planL ids looks) r w' := by
  have HI := Lib.hid hi
  obtain ⟨a, ca, rfl, hl1, hl2, hl3, hl4⟩ := hi
  clear hl3 hl4
  unfold maxLen at hl2
  go_enter Try.func14, Try.ntmps14
  go_wp2_with fail
  refine (ref04_right ids _ _ HI.out).mono ?_
  rintro r w1 ⟨rfl, hb1⟩
  replace HI := Lib.hid (HI.out.below hb1)
  cases hr : riseB ids with
  | false =>
    have HP := Lib.hid (show planL ids looks = [] by unfold planL; rw [hr]; rfl)
    clear hr
    go_wp2
    go_ret
    exact ⟨⟨_, rfl, by rw [HP.out]; exact RowsAt.nil _ _ _⟩, hb1⟩
  | true =>
    have HP := Lib.hid (show planL ids looks = locksL ids looks ++ [(3, 0)] ++ wayL ids by unfold planL; rw [hr]; rfl)
    have HWB := Lib.hid (show wayB ids (ids.length : Int) = wayL ids by unfold wayB; rw [if_pos hr, Int.toNat_natCast, List.take_length])
    have hwl : (wayL ids).length = ids.length + 1 := by simp [wayL, frees_len]
    clear hr
    go_wp2
    go_loopw [5, 6] (fun o i wr => ∃ k : Nat, k ≤ ids.length ∧ i = .int .i64 k ∧ Hid (OwnPlan wr w1.heap.size o (locksL (ids.take k) looks)) ∧ Below w1.heap.size w1 wr) (fun _ i _ => ids.length - (intOf i).toNat)
    case atStart => exact ⟨0, Nat.zero_le _, rfl, OwnRows.nil _ _ _ _ _, Below.refl _ _⟩
    case round =>
      obtain ⟨k, hk, rfl, HO, hbel⟩ := hrel
      have hsz := hbel.size
      have hll := locksL_len (ids.take k) looks
      have hlk : (ids.take k).length ≤ k := List.length_take_le _ _
      by_cases hlt : k < ids.length
      · obtain ⟨b1, o1, rfl, hb1', c1⟩ := (HI.out.below hbel).get hlt
        have HS := Lib.hid (locksL_snoc looks (getD_get hlt))
        obtain ⟨x, hx⟩ : ∃ x, ids.getD k 0 = x := ⟨_, rfl⟩
        rw [hx] at c1 HS
        clear hx
        go_wp2_with (at_builtin; refine wpList_append_rows deedRow_len deedRow_one rfl (.tmp 16) (.tmp 22) 25 rfl w1.heap.size 36 _ 16 Try.underlying25 infoDeed rfl (by decide) (by decide) _ _ rfl (HO.out.alloc _) _ [(1, x)] rfl (RowsAt.lit deedRow_len _ _ [(1, x)] (by simp [maxLen])) ?_ ?_ ?_)
        · simp only [List.length_singleton]
          omega
        · simp
          omega
        intro v1 w5 hown5 hg5 hb5
        have HO5 := Lib.hid hown5
        have c5 : w5.cell? ⟨b1, o1 + k, none⟩ = some (.int .i64 x) := by
          have hlt1 : b1 < w1.heap.size := by
            have := HI.out
            obtain ⟨b', o', he, hb', _⟩ := HI.out.get hlt
            cases he
            exact hb'
          rw [hb5.cell (p := ⟨b1, _, none⟩) hlt1, World.cell?_alloc_past _ _ _ hb1']
          exact c1
        have hbel5 : Below w1.heap.size w1 w5 := (hbel.alloc hsz _).trans hb5
        have hs5 := hbel5.size
        clear hg5 hb5 hown5 c1 HO
        cases looks with
        | false =>
          go_wp2
          refine ⟨⟨k + 1, hlt, by go_num, ?_, hbel5⟩, by simp [intOf]; omega⟩
          rw [HS.out]
          exact HO5.out
        | true =>
          go_wp2_with (at_builtin; refine wpList_append_rows deedRow_len deedRow_one rfl (.tmp 25) (.tmp 31) 25 rfl w1.heap.size 36 _ 16 Try.underlying25 infoDeed rfl (by decide) (by decide) _ _ rfl (HO5.out.alloc _) _ [(2, x)] rfl (RowsAt.lit deedRow_len _ _ [(2, x)] (by simp [maxLen])) ?_ ?_ ?_)
          · simp only [List.length_append, List.length_singleton]
            omega
          · simp
            omega
          intro v2 w6 hown6 hg6 hb6
          have HO6 := Lib.hid hown6
          have hbel6 : Below w1.heap.size w1 w6 := (hbel5.alloc hs5 _).trans hb6
          clear hg6 hb6 hown6
          go_wp2
          refine ⟨⟨k + 1, hlt, by go_num, ?_, hbel6⟩, by simp [intOf]; omega⟩
          rw [HS.out]
          exact HO6.out
      · obtain rfl : k = ids.length := by omega
        rw [List.take_length] at HO hll
        go_wp2_with (at_builtin; refine wpList_append_rows deedRow_len deedRow_one rfl (.tmp 33) (.tmp 35) 25 rfl w1.heap.size 36 _ 16 Try.underlying25 infoDeed rfl (by decide) (by decide) _ _ rfl (HO.out.alloc _) _ [(3, 0)] rfl (RowsAt.lit deedRow_len _ _ [(3, 0)] (by simp [maxLen])) ?_ ?_ ?_)
        · simp only [List.length_singleton]
          omega
        · simp
          omega
        intro v1 w5 hown5 hg5 hb5
        have HO5 := Lib.hid hown5
        have hbel5 : Below w1.heap.size w1 w5 := (hbel.alloc hsz _).trans hb5
        clear hg5 hb5 hown5 HO
        go_wp2_with fail
        refine (ref18_back ids _ _ _ (HI.out.below hbel5) hlen).mono ?_
        rintro r w6 ⟨⟨v6, rfl, h6⟩, hb6⟩
        rw [HWB.out] at h6
        have H6 := Lib.hid h6
        have hbel6 := bstep hbel5 (Nat.le_refl _) hb6
        have HO6 := Lib.hid (HO5.out.below hb6)
        clear h6 hb6
        have hs6 := hbel6.size
        go_wp2_with (at_builtin; refine wpList_append_rows deedRow_len deedRow_one rfl (.tmp 37) (.tmp 41) 25 rfl w1.heap.size 36 _ 16 Try.underlying25 infoDeed rfl (by decide) (by decide) _ _ rfl HO6.out _ (wayL ids) rfl H6.out ?_ ?_ ?_)
        · simp only [List.length_append, List.length_singleton]
          omega
        · omega
        intro v7 w7 hown7 hg7 hb7
        have H7 := Lib.hid (OwnRows.rows deedRow_len hown7)
        have hbel7 : Below w1.heap.size w1 w7 := hbel6.trans hb7
        clear hg7 hb7 hown7
        go_wp2
        go_ret
        exact ⟨⟨_, rfl, by rw [HP.out, List.append_assoc]; exact H7.out⟩, bstep hb1 (Nat.le_refl _) hbel7⟩

end Go.Proofs.Ytacmigimkdiagaa
