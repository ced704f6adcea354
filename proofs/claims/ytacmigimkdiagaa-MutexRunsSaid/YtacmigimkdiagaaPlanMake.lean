/- Walks of plan.Make, Back, Steps and of their references. -/
import Derived.Test.YtacmigimkdiagaaPlanFns
import Derived.Test.YtacmigimkdiagaaOwnFns
namespace Go.Proofs.Ytacmigimkdiagaa
open Go.RowKit
set_option linter.unusedVariables false
set_option linter.unusedSimpArgs false

def frees (ids : List Int) : List (Int × Int) := ids.reverse.map fun i => (4, i)
def wayL (ids : List Int) : List (Int × Int) := frees ids ++ [(5, 0)]
theorem frees_drop {ids : List Int} {j : Nat} {x : Int} (h : ids[j]? = some x) : frees (ids.drop j) = frees (ids.drop (j + 1)) ++ [(4, x)] := by
  have hj := (List.getElem?_eq_some_iff.1 h).1
  rw [List.drop_eq_getElem_cons hj, (List.getElem?_eq_some_iff.1 h).2]
  simp [frees]
theorem frees_len (ids : List Int) : (frees ids).length = ids.length := by simp [frees]

set_option maxHeartbeats 800000 in
theorem list_back (B : Nat) (ids : List Int) (v : Value) (xs : List (Int × Int)) (W0 w : World) (hl : ListAt w B xs) (hi : IntsAt W0 v ids) (h0 : Below W0.heap.size W0 w) (hB : W0.heap.size ≤ B) (hlen : xs.length + ids.length ≤ 100000000) :
    Calls Try.prog 42 #[.pointer (some ⟨B, 0, none⟩), v] w fun r w' => Listed w B (xs ++ wayL ids) r w' := by
  have HI := Lib.hid hi
  have HLW := Lib.hid hl
  have hBw := hl.lt
  obtain ⟨a, ca, rfl, hl1, hl2, hl3, hl4⟩ := hi
  clear hl3 hl4 hl
  unfold maxLen at hl2
  go_enter Try.func42, Try.ntmps42
  go_wp2
  go_loopw [4] (fun i wr => ∃ j : Nat, j ≤ ids.length ∧ i = .int .i64 ((j : Int) - 1) ∧ Hid (ListAt wr B (xs ++ frees (ids.drop j))) ∧ Below B w wr) (fun i _ => (intOf i + 1).toNat)
  case atStart => exact ⟨ids.length, Nat.le_refl _, rfl, by rw [List.drop_length]; simpa [frees, Hid] using HLW.out, Below.refl _ _⟩
  case round =>
    obtain ⟨j, hj, rfl, HL, hbel⟩ := hrel
    have hBr := HL.out.lt
    by_cases hpos : 0 < j
    · obtain ⟨k, rfl⟩ : ∃ k, j = k + 1 := ⟨j - 1, by omega⟩
      have hk1 : ((k + 1 : Nat) : Int) - 1 = (k : Int) := by omega
      simp only [hk1]
      have HIr := Lib.hid (HI.out.below (h0.trans (hbel.mono hB)))
      obtain ⟨b1, o1, rfl, hb1, c1⟩ := HIr.out.get (show k < ids.length by omega)
      have HS := Lib.hid (frees_drop (getD_get (show k < ids.length by omega)))
      obtain ⟨x, hx⟩ : ∃ x, ids.getD k 0 = x := ⟨_, rfl⟩
      rw [hx] at c1 HS
      clear hx
      have hfl : (frees (ids.drop (k + 1))).length ≤ ids.length := by rw [frees_len, List.length_drop]; omega
      go_wp2_with fail
      refine (list_put B x [4] _ _ _ (HL.out.alloc _) (IntsAt.lit1 _ 4) (.inl (by simp)) (by simp only [List.length_append, List.length_singleton]; omega)).mono ?_
      rintro r w1 ⟨rfl, hl1', hb1'⟩
      have hbel1 : Below B w w1 := (hbel.alloc (by omega) _).trans hb1'
      have HL1 := Lib.hid hl1'
      clear hl1' hb1'
      go_wp2
      refine ⟨⟨k, by omega, rfl, ?_, hbel1⟩, by simp [intOf]⟩
      rw [HS.out, ← List.append_assoc]
      exact HL1.out
    · obtain rfl : j = 0 := by omega
      rw [List.drop_zero] at HL
      have hfl : (frees ids).length = ids.length := frees_len ids
      go_wp2_with fail
      refine (list_put B 0 [5] _ _ _ (HL.out.alloc _) (IntsAt.lit1 _ 5) (.inl (by simp)) (by simp only [List.length_append, List.length_singleton]; omega)).mono ?_
      rintro r w1 ⟨rfl, hl1', hb1'⟩
      have hbel1 : Below B w w1 := (hbel.alloc (by omega) _).trans hb1'
      have HL1 := Lib.hid hl1'
      clear hl1' hb1'
      go_wp2
      go_end0
      refine ⟨rfl, ?_, hbel1⟩
      unfold wayL
      rw [← List.append_assoc]
      exact HL1.out

def stepsN (n : Int) (looks : Bool) : Int := if n < 0 ∨ 65536 < n then 0 else if looks then 3 * n + 2 else 2 * n + 2
set_option maxHeartbeats 400000 in
theorem plan_steps (n : Int) (looks : Bool) (w : World) : Calls Try.prog 17 #[.int .i64 n, .bool looks] w fun r w' => r = .returned (.int .i64 (stepsN n looks)) ∧ w' = w := by
  by_cases h1 : n < 0
  · have HS := Lib.hid (show stepsN n looks = 0 by unfold stepsN; rw [if_pos (.inl h1)])
    go_enter Try.func17, Try.ntmps17
    go_wp2
    go_ret
    exact ⟨ret_int HS.out.symm, rfl⟩
  · by_cases h2 : 65536 < n
    · have HS := Lib.hid (show stepsN n looks = 0 by unfold stepsN; rw [if_pos (.inr h2)])
      go_enter Try.func17, Try.ntmps17
      go_wp2
      go_ret
      exact ⟨ret_int HS.out.symm, rfl⟩
    · cases looks with
      | true =>
        have HS := Lib.hid (show stepsN n true = 3 * n + 2 by unfold stepsN; rw [if_neg (by omega)]; rfl)
        go_enter Try.func17, Try.ntmps17
        go_wp2
        go_ret
        exact ⟨ret_int HS.out.symm, rfl⟩
      | false =>
        have HS := Lib.hid (show stepsN n false = 2 * n + 2 by unfold stepsN; rw [if_neg (by omega)]; rfl)
        go_enter Try.func17, Try.ntmps17
        go_wp2
        go_ret
        exact ⟨ret_int HS.out.symm, rfl⟩
set_option maxHeartbeats 400000 in
theorem ref18_steps (n : Int) (looks : Bool) (w : World) : Calls Try.prog 18 #[.int .i64 n, .bool looks] w fun r w' => r = .returned (.int .i64 (stepsN n looks)) ∧ w' = w := by
  by_cases h1 : n < 0
  · have HS := Lib.hid (show stepsN n looks = 0 by unfold stepsN; rw [if_pos (.inl h1)])
    go_enter Try.func18, Try.ntmps18
    go_wp2
    go_ret
    exact ⟨ret_int HS.out.symm, rfl⟩
  · by_cases h2 : 65536 < n
    · have HS := Lib.hid (show stepsN n looks = 0 by unfold stepsN; rw [if_pos (.inr h2)])
      go_enter Try.func18, Try.ntmps18
      go_wp2
      go_ret
      exact ⟨ret_int HS.out.symm, rfl⟩
    · cases looks with
      | true =>
        have HS := Lib.hid (show stepsN n true = 3 * n + 2 by unfold stepsN; rw [if_neg (by omega)]; rfl)
        go_enter Try.func18, Try.ntmps18
        go_wp2
        go_ret
        exact ⟨ret_int HS.out.symm, rfl⟩
      | false =>
        have HS := Lib.hid (show stepsN n false = 2 * n + 2 by unfold stepsN; rw [if_neg (by omega)]; rfl)
        go_enter Try.func18, Try.ntmps18
        go_wp2
        go_ret
        exact ⟨ret_int HS.out.symm, rfl⟩

def kindsL (looks : Bool) : List Int := if looks then [1, 2] else [1]
def locksL (ids : List Int) (looks : Bool) : List (Int × Int) := ids.flatMap fun i => (kindsL looks).map fun k => (k, i)
def planL (ids : List Int) (looks : Bool) : List (Int × Int) := if riseB ids then locksL ids looks ++ [(3, 0)] ++ wayL ids else []
/-- What a call gives that gives deeds. -/
def GivesPlan (w : World) (l : List (Int × Int)) (r : Ending) (w' : World) : Prop := (∃ v, r = .returned v ∧ PlanAt w' v l) ∧ Below w.heap.size w w'
theorem locksL_snoc {ids : List Int} {k : Nat} {x : Int} (looks : Bool) (h : ids[k]? = some x) : locksL (ids.take (k + 1)) looks = locksL (ids.take k) looks ++ (kindsL looks).map fun k => (k, x) := by
  unfold locksL
  rw [List.take_add_one, h, Option.toList_some, List.flatMap_append]
  simp
theorem locksL_len (ids : List Int) (looks : Bool) : (locksL ids looks).length ≤ 2 * ids.length := by
  unfold locksL
  induction ids with
  | nil => simp
  | cons x ids ih =>
    rw [List.flatMap_cons, List.length_append, List.length_cons]
    have : ((kindsL looks).map fun k => (k, x)).length ≤ 2 := by cases looks <;> simp [kindsL]
    omega
theorem InOld.of_ints {w : World} {v : Value} {l : List Int} (h : IntsAt w v l) (hne : l ≠ []) : InOld w.heap.size v := by
  obtain ⟨a, cap, rfl, _, _, _, hc⟩ := h
  obtain ⟨b, off, rfl, hb, _⟩ := hc hne
  rintro b' off' n c he
  cases he
  exact hb

theorem IntsAt.lit_at (w : World) (l : List Int) (hm : l.length ≤ maxLen) {H : Nat} (hH : w.heap.size = H) : IntsAt (w.alloc (.cells (l.map (Value.int .i64)).toArray 3)) (.slice (some ⟨H, 0, none⟩) l.length l.length) l := by
  subst hH
  exact (own_lit w 0 l (Nat.zero_le _) hm).ints

set_option maxHeartbeats 1600000 in
theorem plan_make (ids : List Int) (v : Value) (looks : Bool) (w : World) (hi : IntsAt w v ids) (hlen : ids.length ≤ 10000000) :
    Calls Try.prog 13 #[v, .bool looks] w fun r w' => GivesPlan w (planL ids looks) r w' := by
  have HI := Lib.hid hi
  obtain ⟨a, ca, rfl, hl1, hl2, hl3, hl4⟩ := hi
  clear hl3 hl4
  unfold maxLen at hl2
  go_enter Try.func13, Try.ntmps13
  go_wp2_with fail
  refine (sets_right ids _ _ HI.out).mono ?_
  rintro r w1 ⟨rfl, hb1⟩
  replace HI := Lib.hid (HI.out.below hb1)
  cases hr : riseB ids with
  | false =>
    have HP := Lib.hid (show planL ids looks = [] by unfold planL; rw [hr]; rfl)
    clear hr
    go_wp2
    go_ret
    exact ⟨⟨_, rfl, by rw [HP.out]; exact RowsAt.nil _ _ _⟩, hb1⟩
  | true =>
    have HP := Lib.hid (show planL ids looks = locksL ids looks ++ [(3, 0)] ++ wayL ids by unfold planL; rw [hr]; rfl)
    clear hr
    cases looks with
    | true =>
      go_wp2_with (at_builtin; refine wpList_append_ints rfl (.tmp 14) (.tmp 15) rfl w1.heap.size _ [1] rfl ((own_lit w1 w1.heap.size [1] (Nat.le_refl _) (by simp [maxLen])).alloc _) _ [2] rfl ?_ ?_ ?_ ?_)
      · exact IntsAt.lit_at _ [2] (by simp [maxLen]) (by simp)
      · simp
      · simp
        omega
      intro v1 Wk hown hg hb
      have hkv : IntsAt Wk v1 [1, 2] := OwnInts.ints hown
      have hbk1 : Below w1.heap.size w1 Wk := (((Below.refl _ _).alloc (Nat.le_refl _) _).alloc (by simp) _).trans hb
      have hbk := bstep hb1 (Nat.le_refl _) hbk1
      have HIk := Lib.hid (HI.out.below hbk1)
      clear hown hg hb hbk1 hb1
      have hko : InOld Wk.heap.size v1 := InOld.of_ints hkv (by simp)
      have HKV := Lib.hid hkv
      have HKO := Lib.hid hko
      have hsk := hbk.size
      clear hkv hko
      go_wp2
      go_loopw [19] (fun i wr => ∃ k : Nat, k ≤ ids.length ∧ i = .int .i64 k ∧ Hid (ListAt wr Wk.heap.size (locksL (ids.take k) true)) ∧ Below Wk.heap.size Wk wr) (fun i _ => ids.length - (intOf i).toNat)
      case atStart => exact ⟨0, Nat.zero_le _, rfl, ⟨.slice none 0 0, by go_simp, by go_simp, OwnRows.nil _ _ _ _ _⟩, (Below.refl _ _).alloc (Nat.le_refl _) _⟩
      case round =>
        obtain ⟨k, hk, rfl, HL, hbel⟩ := hrel
        have hLlt := HL.out.lt
        have hll := locksL_len (ids.take k) true
        have hlk : (ids.take k).length ≤ k := List.length_take_le _ _
        by_cases hlt : k < ids.length
        · obtain ⟨b1, o1, rfl, hb1', c1⟩ := (HIk.out.below hbel).get hlt
          have HS := Lib.hid (locksL_snoc true (getD_get hlt))
          obtain ⟨x, hx⟩ : ∃ x, ids.getD k 0 = x := ⟨_, rfl⟩
          rw [hx] at c1 HS
          clear hx
          go_wp2_with fail
          refine (list_put Wk.heap.size x [1, 2] _ _ _ HL.out (HKV.out.below hbel) (.inr HKO.out) (by simp only [List.length_cons, List.length_nil]; omega)).mono ?_
          rintro r w3 ⟨rfl, hl3, hb3⟩
          have HL3 := Lib.hid hl3
          have hbel3 := hbel.trans hb3
          clear hl3 hb3
          go_wp2
          refine ⟨⟨k + 1, hlt, by go_num, ?_, hbel3⟩, by simp [intOf]; omega⟩
          rw [HS.out]
          exact HL3.out
        · obtain rfl : k = ids.length := by omega
          rw [List.take_length] at HL hll
          have hwl : (wayL ids).length = ids.length + 1 := by simp [wayL, frees_len]
          go_wp2_with fail
          refine (list_put Wk.heap.size 0 [3] _ _ _ (HL.out.alloc _) (IntsAt.lit1 _ 3) (.inl (by simp)) (by simp only [List.length_cons, List.length_nil]; omega)).mono ?_
          rintro r w3 ⟨rfl, hl3, hb3⟩
          have HL3 := Lib.hid hl3
          have hbel3 := (hbel.alloc hbel.size _).trans hb3
          clear hl3 hb3
          go_wp2_with fail
          refine (list_back Wk.heap.size ids _ _ Wk _ HL3.out HIk.out hbel3 (Nat.le_refl _) (by simp only [List.length_append, List.length_map, List.length_cons, List.length_nil]; omega)).mono ?_
          rintro r w4 ⟨rfl, ⟨v4, c4, f4, o4⟩, hb4⟩
          have H4 := Lib.hid (OwnRows.rows deedRow_len o4)
          have hbel4 := hbel3.trans hb4
          clear f4 o4 hb4
          go_wp2
          go_ret
          exact ⟨⟨_, rfl, by rw [HP.out]; exact H4.out⟩, bstep hbk (Nat.le_refl _) hbel4⟩
    | false =>
      go_wp2_with fail
      obtain ⟨Wk, hWk⟩ : ∃ Wk, w1.alloc (.cells #[.int .i64 1] 3) = Wk := ⟨_, rfl⟩
      obtain ⟨v1, hv1⟩ : ∃ v1, Value.slice (some ⟨w1.heap.size, 0, none⟩) 1 1 = v1 := ⟨_, rfl⟩
      have hkv : IntsAt Wk v1 [1] := by rw [← hWk, ← hv1]; exact IntsAt.lit1 _ 1
      have hbk1 : Below w1.heap.size w1 Wk := by rw [← hWk]; exact (Below.refl _ _).alloc (Nat.le_refl _) _
      have hbk := bstep hb1 (Nat.le_refl _) hbk1
      have HIk := Lib.hid (HI.out.below hbk1)
      have hsz : w1.heap.size + 1 = Wk.heap.size := by rw [← hWk]; simp
      rw [hv1, hWk, hsz]
      clear hWk hv1 hsz hbk1 hb1
      have hko : InOld Wk.heap.size v1 := InOld.of_ints hkv (by simp)
      have HKV := Lib.hid hkv
      have HKO := Lib.hid hko
      have hsk := hbk.size
      clear hkv hko
      go_loopw [19] (fun i wr => ∃ k : Nat, k ≤ ids.length ∧ i = .int .i64 k ∧ Hid (ListAt wr Wk.heap.size (locksL (ids.take k) false)) ∧ Below Wk.heap.size Wk wr) (fun i _ => ids.length - (intOf i).toNat)
      case atStart => exact ⟨0, Nat.zero_le _, rfl, ⟨.slice none 0 0, by go_simp, by go_simp, OwnRows.nil _ _ _ _ _⟩, (Below.refl _ _).alloc (Nat.le_refl _) _⟩
      case round =>
        obtain ⟨k, hk, rfl, HL, hbel⟩ := hrel
        have hLlt := HL.out.lt
        have hll := locksL_len (ids.take k) false
        have hlk : (ids.take k).length ≤ k := List.length_take_le _ _
        by_cases hlt : k < ids.length
        · obtain ⟨b1, o1, rfl, hb1', c1⟩ := (HIk.out.below hbel).get hlt
          have HS := Lib.hid (locksL_snoc false (getD_get hlt))
          obtain ⟨x, hx⟩ : ∃ x, ids.getD k 0 = x := ⟨_, rfl⟩
          rw [hx] at c1 HS
          clear hx
          go_wp2_with fail
          refine (list_put Wk.heap.size x [1] _ _ _ HL.out (HKV.out.below hbel) (.inr HKO.out) (by simp only [List.length_cons, List.length_nil]; omega)).mono ?_
          rintro r w3 ⟨rfl, hl3, hb3⟩
          have HL3 := Lib.hid hl3
          have hbel3 := hbel.trans hb3
          clear hl3 hb3
          go_wp2
          refine ⟨⟨k + 1, hlt, by go_num, ?_, hbel3⟩, by simp [intOf]; omega⟩
          rw [HS.out]
          exact HL3.out
        · obtain rfl : k = ids.length := by omega
          rw [List.take_length] at HL hll
          have hwl : (wayL ids).length = ids.length + 1 := by simp [wayL, frees_len]
          go_wp2_with fail
          refine (list_put Wk.heap.size 0 [3] _ _ _ (HL.out.alloc _) (IntsAt.lit1 _ 3) (.inl (by simp)) (by simp only [List.length_cons, List.length_nil]; omega)).mono ?_
          rintro r w3 ⟨rfl, hl3, hb3⟩
          have HL3 := Lib.hid hl3
          have hbel3 := (hbel.alloc hbel.size _).trans hb3
          clear hl3 hb3
          go_wp2_with fail
          refine (list_back Wk.heap.size ids _ _ Wk _ HL3.out HIk.out hbel3 (Nat.le_refl _) (by simp only [List.length_append, List.length_map, List.length_cons, List.length_nil]; omega)).mono ?_
          rintro r w4 ⟨rfl, ⟨v4, c4, f4, o4⟩, hb4⟩
          have H4 := Lib.hid (OwnRows.rows deedRow_len o4)
          have hbel4 := hbel3.trans hb4
          clear f4 o4 hb4
          go_wp2
          go_ret
          exact ⟨⟨_, rfl, by rw [HP.out]; exact H4.out⟩, bstep hbk (Nat.le_refl _) hbel4⟩

end Go.Proofs.Ytacmigimkdiagaa
