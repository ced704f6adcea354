/- Walks of the reference of package owner: may, Take, Give; and owner.New. -/
import Derived.Test.YtdpinfigjeafpaaOwnTop
namespace Go.Proofs.Ytdpinfigjeafpaa
open Go.RowKit
set_option linter.unusedVariables false
set_option linter.unusedSimpArgs false

theorem turnR_some {o ids : List Int} {who y er : Int} {pm : Int → Bool} {k : Nat} (hok : (rightO o && armN who && riseB ids) = true) (hbad : turnBad o.length ids = none) (hnot : turnNot o ids pm = some k) :
    turnR o ids who y er pm = ([], ids.getD k 0, er) := by unfold turnR; rw [if_pos hok, hbad, hnot]
theorem turnR_none {o ids : List Int} {who y er : Int} {pm : Int → Bool} (hok : (rightO o && armN who && riseB ids) = true) (hbad : turnBad o.length ids = none) (hnot : turnNot o ids pm = none) :
    turnR o ids who y er pm = (setAll o ids y, 0, 0) := by unfold turnR; rw [if_pos hok, hbad, hnot]

/-- May it be asked? -/
def mayR (o ids : List Int) (who : Int) : Int × Int :=
  if rightO o && armN who && riseB ids then match turnBad o.length ids with | some k => (ids.getD k 0, 3) | none => (0, 0) else (0, 1)

set_option maxHeartbeats 2000000 in
theorem ref14_may (o ids : List Int) (u v : Value) (who : Int) (w : World) (ho : IntsAt w u o) (hi : IntsAt w v ids) :
    Calls Try.prog 61 #[u, v, .int .i64 who] w fun e w' => e = .returned (.tuple #[.int .i64 (mayR o ids who).1, .int .i64 (mayR o ids who).2]) ∧ Below w.heap.size w w' := by
  obtain ⟨R, hR⟩ : ∃ R, mayR o ids who = R := ⟨_, rfl⟩
  have HR := Lib.hid hR
  clear hR
  rw [HR.out]
  obtain ⟨r1, r2⟩ := R
  obtain ⟨a, ca, rfl, _⟩ := id ho
  obtain ⟨b, cb, rfl, _⟩ := id hi
  have hl2 : o.length ≤ 9223372036854775807 := by obtain ⟨_, _, h, h1, h2, _⟩ := ho; unfold maxLen at h2; omega
  have hm2 : ids.length ≤ 9223372036854775807 := by obtain ⟨_, _, h, h1, h2, _⟩ := hi; unfold maxLen at h2; omega
  go_enter Try.func61, Try.ntmps61
  go_wp2_with fail
  refine (ref14_right o _ _ ho).mono ?_
  rintro e w' ⟨rfl, rfl⟩
  cases hro : rightO o with
  | false =>
    have e : (0, 1) = (r1, r2) := by rw [← HR.out]; simp [mayR, hro]
    obtain ⟨e1, e2⟩ := Prod.mk.inj e
    subst e1
    subst e2
    go_wp2
    go_ret2
    exact ⟨rfl, Below.refl _ _⟩
  | true =>
    have HRO := Lib.hid hro
    clear hro
    by_cases ha : 1 ≤ who ∧ who ≤ 8
    · have HARM := Lib.hid (show armN who = true from by simp [armN, ha])
      obtain ⟨ha1, ha2⟩ := ha
      go_wp2_with fail
      refine (ref04_right ids _ _ hi).mono ?_
      rintro e w1 ⟨rfl, hb1⟩
      cases hri : riseB ids with
      | false =>
        have e : (0, 1) = (r1, r2) := by rw [← HR.out]; simp [mayR, hri]
        obtain ⟨e1, e2⟩ := Prod.mk.inj e
        subst e1
        subst e2
        go_wp2
        go_ret2
        exact ⟨rfl, hb1⟩
      | true =>
        have HRI := Lib.hid hri
        have HI := Lib.hid (hi.below hb1)
        clear hri ho hi
        go_wp2
        go_loop [8] (fun i => ∃ k : Nat, k ≤ ids.length ∧ i = .int .i64 k ∧ NoneYet (fun j => decide (ids.getD j 0 < 0) || decide ((o.length : Int) ≤ ids.getD j 0)) k) (fun i => ids.length - (intOf i).toNat)
        case atStart => exact ⟨0, Nat.zero_le _, rfl, NoneYet.zero _⟩
        case round =>
          obtain ⟨k, hk, rfl, hs⟩ := hrel
          by_cases hlt : k < ids.length
          · obtain ⟨b1, o1, rfl, hbb1, c1⟩ := HI.out.get hlt
            obtain ⟨x, hx⟩ : ∃ x, ids.getD k 0 = x := ⟨_, rfl⟩
            rw [hx] at c1
            have HX := Lib.hid hx
            clear hx
            by_cases hr : 0 ≤ x ∧ x < o.length
            · obtain ⟨hr0, hr1⟩ := hr
              have HB := Lib.hid (show (decide (ids.getD k 0 < 0) || decide ((o.length : Int) ≤ ids.getD k 0)) = false from by rw [HX.out]; simp; omega)
              go_wp2
              exact ⟨⟨k + 1, hlt, by go_num, hs.succ HB.out⟩, by simp [intOf]; omega⟩
            · have HB := Lib.hid (show (decide (ids.getD k 0 < 0) || decide ((o.length : Int) ≤ ids.getD k 0)) = true from by rw [HX.out]; simp; omega)
              have e : (x, 3) = (r1, r2) := by rw [← HR.out]; simp only [mayR, HRO.out, HARM.out, HRI.out, turnBad, firstIdx_some hs hlt HB.out, HX.out]; rfl
              obtain ⟨e1, e2⟩ := Prod.mk.inj e
              subst e1
              subst e2
              by_cases hneg : x < 0
              all_goals
                go_wp2
                go_ret2
                exact ⟨rfl, hb1⟩
          · obtain rfl : k = ids.length := by omega
            have e : (0, 0) = (r1, r2) := by rw [← HR.out]; simp only [mayR, HRO.out, HARM.out, HRI.out, turnBad, firstIdx_none hs]; rfl
            obtain ⟨e1, e2⟩ := Prod.mk.inj e
            subst e1
            subst e2
            go_wp2
            go_ret2
            exact ⟨rfl, hb1⟩
    · have HARM := Lib.hid (show armN who = false from by simp [armN]; omega)
      have e : (0, 1) = (r1, r2) := by rw [← HR.out]; simp [mayR, HARM.out]
      obtain ⟨e1, e2⟩ := Prod.mk.inj e
      subst e1
      subst e2
      by_cases h1 : who < 1
      all_goals
        go_wp2
        go_ret2
        exact ⟨rfl, Below.refl _ _⟩

set_option maxHeartbeats 2000000 in
theorem ref14_take (o ids : List Int) (u v : Value) (who : Int) (w : World) (ho : IntsAt w u o) (hi : IntsAt w v ids) (hlen : o.length ≤ 100000000) :
    Calls Try.prog 28 #[u, v, .int .i64 who] w fun e w' => Turned w (takeR o ids who) e w' := by
  obtain ⟨R, hR⟩ : ∃ R, takeR o ids who = R := ⟨_, rfl⟩
  have HR := Lib.hid hR
  clear hR
  rw [HR.out]
  obtain ⟨a, ca, rfl, _⟩ := id ho
  obtain ⟨b, cb, rfl, _⟩ := id hi
  have hl2 : o.length ≤ 9223372036854775807 := by obtain ⟨_, _, h, h1, h2, _⟩ := ho; unfold maxLen at h2; omega
  have hm2 : ids.length ≤ 9223372036854775807 := by obtain ⟨_, _, h, h1, h2, _⟩ := hi; unfold maxLen at h2; omega
  go_enter Try.func28, Try.ntmps28
  go_wp2_with fail
  refine (ref14_may o ids _ _ _ _ ho hi).mono ?_
  rintro e w1 ⟨rfl, hb1⟩
  have HO := Lib.hid (ho.below hb1)
  have HI := Lib.hid (hi.below hb1)
  clear ho hi
  by_cases hok : (rightO o && armN who && riseB ids) = true
  · cases hbad : turnBad o.length ids with
    | some k =>
      have e1 : mayR o ids who = (ids.getD k 0, 3) := by unfold mayR; rw [if_pos hok, hbad]
      have e : R = ([], ids.getD k 0, 3) := by rw [← HR.out]; unfold takeR turnR; rw [if_pos hok, hbad]
      obtain ⟨x, hx⟩ : ∃ x, ids.getD k 0 = x := ⟨_, rfl⟩
      rw [hx] at e e1
      subst e
      rw [e1]
      clear e1 hx hbad hok
      go_wp2
      go_ret3
      exact ⟨⟨_, rfl, IntsAt.nil _⟩, hb1⟩
    | none =>
      have e1 : mayR o ids who = (0, 0) := by unfold mayR; rw [if_pos hok, hbad]
      rw [e1]
      have HIN := Lib.hid (turnBad_none hbad)
      have HBAD := Lib.hid hbad
      have HOK := Lib.hid hok
      clear e1 hbad hok
      go_wp2
      go_loop [11] (fun i => ∃ k : Nat, k ≤ ids.length ∧ i = .int .i64 k ∧ NoneYet (fun j => !takeP who (o.getD (ids.getD j 0).toNat 0)) k) (fun i => ids.length - (intOf i).toNat)
      case atStart => exact ⟨0, Nat.zero_le _, rfl, NoneYet.zero _⟩
      case round =>
        obtain ⟨k, hk, rfl, hs⟩ := hrel
        by_cases hlt : k < ids.length
        · obtain ⟨b1, o1, rfl, hbb1, c1⟩ := HI.out.get hlt
          obtain ⟨hr0, hr1⟩ := HIN.out k hlt
          obtain ⟨x, hx⟩ : ∃ x : Nat, ids.getD k 0 = x := ⟨(ids.getD k 0).toNat, by omega⟩
          rw [hx] at c1 hr0 hr1
          have HX := Lib.hid hx
          clear hx
          have hxl : x < o.length := by omega
          obtain ⟨b2, o2, rfl, hb2, c2⟩ := HO.out.get hxl
          obtain ⟨y, hy⟩ : ∃ y, o.getD x 0 = y := ⟨_, rfl⟩
          rw [hy] at c2
          have HY := Lib.hid hy
          clear hy
          have HP := Lib.hid (show (!takeP who (o.getD (ids.getD k 0).toNat 0)) = !takeP who y from by rw [HX.out, Int.toNat_natCast, HY.out])
          by_cases hy0 : y = 0
          · have hd0 : (y != 0) = false := by simpa using hy0
            have e9 : (!takeP who y) = false := by simp [takeP, hy0]
            rw [e9] at HP
            clear e9 hy0
            go_wp2
            exact ⟨⟨k + 1, hlt, by go_num, hs.succ HP.out⟩, by simp [intOf]; omega⟩
          · have hd0 : (y != 0) = true := by simpa using hy0
            by_cases hyw : y = who
            · have hd1 : (y != who) = false := by simpa using hyw
              have e9 : (!takeP who y) = false := by simp [takeP, hyw]
              rw [e9] at HP
              clear e9 hyw hy0
              go_wp2
              exact ⟨⟨k + 1, hlt, by go_num, hs.succ HP.out⟩, by simp [intOf]; omega⟩
            · have hd1 : (y != who) = true := by simpa using hyw
              have e9 : (!takeP who y) = true := by simp [takeP, hyw, hy0]
              rw [e9] at HP
              clear e9 hyw hy0
              have e : R = ([], (x : Int), 140) := by rw [← HR.out]; unfold takeR; rw [turnR_some HOK.out HBAD.out (firstIdx_some hs hlt HP.out), HX.out]
              subst e
              go_wp2
              go_quiet (fail)
              go_wp2
              go_ret3
              exact ⟨⟨_, rfl, IntsAt.nil _⟩, below_drewN hb1 _⟩
        · obtain rfl : k = ids.length := by omega
          have e : R = (setAll o ids who, 0, 0) := by rw [← HR.out]; unfold takeR; rw [turnR_none HOK.out HBAD.out (firstIdx_none hs)]
          have HEND := Lib.hid e
          clear e
          go_wp2_with fail
          refine (ref14_with o ids _ _ _ _ HO.out HI.out HIN.out hlen).mono ?_
          rintro e w2 ⟨⟨v2, rfl, hv2⟩, hb2⟩
          have HV := Lib.hid hv2
          have hbel := bstep hb1 (Nat.le_refl _) hb2
          clear hv2
          go_wp2
          go_ret3
          rw [HEND.out]
          exact ⟨⟨_, rfl, HV.out⟩, hbel⟩
  · have e1 : mayR o ids who = (0, 1) := by unfold mayR; rw [if_neg hok]
    have e : R = ([], 0, 1) := by rw [← HR.out]; unfold takeR turnR; rw [if_neg hok]
    subst e
    rw [e1]
    clear e1 hok
    go_wp2
    go_ret3
    exact ⟨⟨_, rfl, IntsAt.nil _⟩, hb1⟩

set_option maxHeartbeats 2000000 in
theorem ref14_give (o ids : List Int) (u v : Value) (who : Int) (w : World) (ho : IntsAt w u o) (hi : IntsAt w v ids) (hlen : o.length ≤ 100000000) :
    Calls Try.prog 33 #[u, v, .int .i64 who] w fun e w' => Turned w (giveR o ids who) e w' := by
  obtain ⟨R, hR⟩ : ∃ R, giveR o ids who = R := ⟨_, rfl⟩
  have HR := Lib.hid hR
  clear hR
  rw [HR.out]
  obtain ⟨a, ca, rfl, _⟩ := id ho
  obtain ⟨b, cb, rfl, _⟩ := id hi
  have hl2 : o.length ≤ 9223372036854775807 := by obtain ⟨_, _, h, h1, h2, _⟩ := ho; unfold maxLen at h2; omega
  have hm2 : ids.length ≤ 9223372036854775807 := by obtain ⟨_, _, h, h1, h2, _⟩ := hi; unfold maxLen at h2; omega
  go_enter Try.func33, Try.ntmps33
  go_wp2_with fail
  refine (ref14_may o ids _ _ _ _ ho hi).mono ?_
  rintro e w1 ⟨rfl, hb1⟩
  have HO := Lib.hid (ho.below hb1)
  have HI := Lib.hid (hi.below hb1)
  clear ho hi
  by_cases hok : (rightO o && armN who && riseB ids) = true
  · cases hbad : turnBad o.length ids with
    | some k =>
      have e1 : mayR o ids who = (ids.getD k 0, 3) := by unfold mayR; rw [if_pos hok, hbad]
      have e : R = ([], ids.getD k 0, 3) := by rw [← HR.out]; unfold giveR turnR; rw [if_pos hok, hbad]
      obtain ⟨x, hx⟩ : ∃ x, ids.getD k 0 = x := ⟨_, rfl⟩
      rw [hx] at e e1
      subst e
      rw [e1]
      clear e1 hx hbad hok
      go_wp2
      go_ret3
      exact ⟨⟨_, rfl, IntsAt.nil _⟩, hb1⟩
    | none =>
      have e1 : mayR o ids who = (0, 0) := by unfold mayR; rw [if_pos hok, hbad]
      rw [e1]
      have HIN := Lib.hid (turnBad_none hbad)
      have HBAD := Lib.hid hbad
      have HOK := Lib.hid hok
      clear e1 hbad hok
      go_wp2
      go_loop [11] (fun i => ∃ k : Nat, k ≤ ids.length ∧ i = .int .i64 k ∧ NoneYet (fun j => !giveP who (o.getD (ids.getD j 0).toNat 0)) k) (fun i => ids.length - (intOf i).toNat)
      case atStart => exact ⟨0, Nat.zero_le _, rfl, NoneYet.zero _⟩
      case round =>
        obtain ⟨k, hk, rfl, hs⟩ := hrel
        by_cases hlt : k < ids.length
        · obtain ⟨b1, o1, rfl, hbb1, c1⟩ := HI.out.get hlt
          obtain ⟨hr0, hr1⟩ := HIN.out k hlt
          obtain ⟨x, hx⟩ : ∃ x : Nat, ids.getD k 0 = x := ⟨(ids.getD k 0).toNat, by omega⟩
          rw [hx] at c1 hr0 hr1
          have HX := Lib.hid hx
          clear hx
          have hxl : x < o.length := by omega
          obtain ⟨b2, o2, rfl, hb2, c2⟩ := HO.out.get hxl
          obtain ⟨y, hy⟩ : ∃ y, o.getD x 0 = y := ⟨_, rfl⟩
          rw [hy] at c2
          have HY := Lib.hid hy
          clear hy
          have HP := Lib.hid (show (!giveP who (o.getD (ids.getD k 0).toNat 0)) = !giveP who y from by rw [HX.out, Int.toNat_natCast, HY.out])
          by_cases hyw : y = who
          · have hd1 : (y != who) = false := by simpa using hyw
            have e9 : (!giveP who y) = false := by simp [giveP, hyw]
            rw [e9] at HP
            clear e9 hyw
            go_wp2
            exact ⟨⟨k + 1, hlt, by go_num, hs.succ HP.out⟩, by simp [intOf]; omega⟩
          · have hd1 : (y != who) = true := by simpa using hyw
            have e9 : (!giveP who y) = true := by simp [giveP, hyw]
            rw [e9] at HP
            clear e9 hyw
            have e : R = ([], (x : Int), 141) := by rw [← HR.out]; unfold giveR; rw [turnR_some HOK.out HBAD.out (firstIdx_some hs hlt HP.out), HX.out]
            subst e
            go_wp2
            go_quiet (fail)
            go_wp2
            go_ret3
            exact ⟨⟨_, rfl, IntsAt.nil _⟩, below_drewN hb1 _⟩
        · obtain rfl : k = ids.length := by omega
          have e : R = (setAll o ids 0, 0, 0) := by rw [← HR.out]; unfold giveR; rw [turnR_none HOK.out HBAD.out (firstIdx_none hs)]
          have HEND := Lib.hid e
          clear e
          go_wp2_with fail
          refine (ref14_with o ids _ _ _ _ HO.out HI.out HIN.out hlen).mono ?_
          rintro e w2 ⟨⟨v2, rfl, hv2⟩, hb2⟩
          have HV := Lib.hid hv2
          have hbel := bstep hb1 (Nat.le_refl _) hb2
          clear hv2
          go_wp2
          go_ret3
          rw [HEND.out]
          exact ⟨⟨_, rfl, HV.out⟩, hbel⟩
  · have e1 : mayR o ids who = (0, 1) := by unfold mayR; rw [if_neg hok]
    have e : R = ([], 0, 1) := by rw [← HR.out]; unfold giveR turnR; rw [if_neg hok]
    subst e
    rw [e1]
    clear e1 hok
    go_wp2
    go_ret3
    exact ⟨⟨_, rfl, IntsAt.nil _⟩, hb1⟩

set_option maxHeartbeats 800000 in
theorem owner_new (n : Int) (w : World) (hn : n ≤ 1000000) :
    Calls Try.prog 38 #[.int .i64 n] w fun e w' => (∃ v', e = .returned v' ∧ OwnInts w' w.heap.size v' (List.replicate n.toNat 0)) ∧ Below w.heap.size w w' := by
  by_cases hneg : n < 0
  · have e : n.toNat = 0 := by omega
    rw [e]
    go_enter Try.func38, Try.ntmps38
    go_wp2
    go_ret
    exact ⟨⟨_, rfl, OwnInts.nil _ _⟩, Below.refl _ _⟩
  · obtain ⟨k, rfl⟩ : ∃ k : Nat, n = k := ⟨n.toNat, by omega⟩
    rw [Int.toNat_natCast]
    obtain ⟨i0, hi, hz0, hz1, hz2⟩ := info_parts infoInt
    go_enter Try.func38, Try.ntmps38
    go_wp2_with (refine wpList_make_full _ rfl (.tmp 5) (.tmp 5) 42 rfl w.heap.size 3 i0 (.int .i64 0) 1 Try.underlying42 hi hz0 hz1 .i64 .i64 _ _ k rfl rfl rfl rfl ?_ ?_ (Nat.le_refl _) ?_)
    · omega
    · unfold maxLen
      omega
    · intro w1 hown1 hg1
      have HV : Hid (OwnInts w1 w.heap.size (.slice (some ⟨w.heap.size, 0, none⟩) k k) (List.replicate k 0)) := by
        unfold Hid OwnInts
        rw [List.length_replicate, List.map_replicate]
        have e : (madeCells #[Value.int .i64 0] k).toList = List.replicate k (Value.int .i64 0) := toList_madeCells_one _ _
        rw [← e]
        exact hown1
      have hb1 : Below w.heap.size w w1 := (Below.refl _ _).grown hg1 (Nat.le_refl _) (fun k h => by cases h)
      clear hown1 hg1 hi hz0 hz1 hz2
      go_wp2
      go_ret
      exact ⟨⟨_, rfl, HV.out⟩, hb1⟩

end Go.Proofs.Ytdpinfigjeafpaa
