/- Walks of the reference of package hist: All, first, Same, Open. -/
import Derived.Test.YteaahepjendjmaaHistTop
namespace Go.Proofs.Yteaahepjendjmaa
open Go.RowKit
set_option linter.unusedVariables false
set_option linter.unusedSimpArgs false

/-- A place that was looked for, or -1. -/
def idxI (o : Option Nat) : Int := match o with | some k => (k : Int) | none => -1

set_option maxHeartbeats 800000 in
theorem ref19_all (l : List Ev) (v : Value) (kd : Int) (w : World) (hl : EvsAt w v l) (hlen : l.length ≤ 100000000) :
    Calls Try.prog 15 #[v, .int .i64 kd] w fun r w' => GivesCalls w (callsE (isK kd) l) r w' := by
  have HL := Lib.hid hl
  obtain ⟨a, ca, rfl, hl1, hl2, hl3, hl4⟩ := hl
  clear hl3 hl4
  unfold maxLen at hl2
  go_enter Try.func15, Try.ntmps15
  go_wp2
  go_loopw [5, 6] (fun o i wr => ∃ k : Nat, k ≤ l.length ∧ i = .int .i64 k ∧ Hid (OwnCalls wr w.heap.size o (callsE (isK kd) (l.take k))) ∧ Below w.heap.size w wr) (fun _ i _ => l.length - (intOf i).toNat)
  case atStart => exact ⟨0, Nat.zero_le _, rfl, OwnRows.nil _ _ _ _ _, Below.refl _ _⟩
  case round =>
    obtain ⟨k, hk, rfl, HO, hbel⟩ := hrel
    by_cases hlt : k < l.length
    · obtain ⟨b1, o1, e, rfl, hb1, hke, c1, c2, c3, c4⟩ := EvsAt.get4 HL.out hlt
      rw [← hbel.cell (p := ⟨b1, _, none⟩) hb1] at c1 c2 c3 c4
      have HS := Lib.hid (callsE_snoc (isK kd) hke)
      have hsz := hbel.size
      have hle : (callsE (isK kd) (l.take k)).length ≤ l.length := Nat.le_trans (callsE_le _ _) (by rw [List.length_take]; omega)
      clear hke
      cases hd : (e.k == kd) with
      | true =>
        go_wp2_with fail
        refine (ref19_of e _).mono ?_
        rintro r w2 ⟨rfl, hb2⟩
        have hbel2 := bstep hbel (Nat.le_refl _) hb2
        have HO2 := Lib.hid (HO.out.below hb2)
        clear HO
        go_wp2_with (at_builtin; refine wpList_append_rows callRow_len callRow_one rfl (.tmp 20) (.tmp 26) 26 rfl w.heap.size 31 _ 16 Try.underlying26 infoCall rfl (by decide) (by decide) _ _ rfl (HO2.out.alloc _) _ [ofE e] rfl (RowsAt.lit callRow_len _ _ [ofE e] (by simp [maxLen])) ?_ ?_ ?_)
        · simp only [List.length_singleton]
          omega
        · have := hbel2.size
          simp
          omega
        intro v1 w3 hown3 hg3 hb3
        have hbel3 : Below w.heap.size w w3 := (hbel2.alloc hbel2.size _).trans hb3
        clear hg3 hb3
        go_wp2
        refine ⟨⟨k + 1, hlt, by go_num, ?_, hbel3⟩, by simp [intOf]; omega⟩
        rw [HS.out, if_pos (show isK kd e = true from hd)]
        exact hown3
      | false =>
        go_wp2
        refine ⟨⟨k + 1, hlt, by go_num, ?_, hbel⟩, by simp [intOf]; omega⟩
        rw [HS.out, if_neg (by rw [show isK kd e = false from hd]; simp), List.append_nil]
        exact HO.out
    · obtain rfl : k = l.length := by omega
      rw [List.take_length] at HO
      go_wp2
      go_ret
      exact ⟨⟨_, rfl, OwnRows.rows callRow_len HO.out⟩, hbel⟩

set_option maxHeartbeats 1600000 in
theorem ref19_first (l : List Ev) (v : Value) (kd : Int) (c : Int × Int) (w : World) (hl : EvsAt w v l) :
    Calls Try.prog 40 #[v, .int .i64 kd, callV c] w fun r w' => r = .returned (.int .i64 (idxI (firstE (isOf kd c) l))) ∧ Below w.heap.size w w' := by
  have hlw := hl
  obtain ⟨a, ca, rfl, hl1, hl2, hl3, hl4⟩ := hl
  clear hl3 hl4
  unfold maxLen at hl2
  go_enter Try.func40, Try.ntmps40
  go_wp2
  obtain ⟨W0, hW0⟩ : ∃ W0, w.alloc (.cells #[.int .i64 c.1, .int .i64 c.2] 31) = W0 := ⟨_, rfl⟩
  have d0 : W0.cell? ⟨w.heap.size, 0, none⟩ = some (.int .i64 c.1) := by rw [← hW0]; simp [go_sem]
  have d1 : W0.cell? ⟨w.heap.size, 1, none⟩ = some (.int .i64 c.2) := by rw [← hW0]; simp [go_sem]
  have hs0 : w.heap.size < W0.heap.size := by rw [← hW0]; simp
  have hbw : Below w.heap.size w W0 := by rw [← hW0]; exact (Below.refl _ _).alloc (Nat.le_refl _) _
  have HL := Lib.hid (hlw.below hbw)
  clear hlw
  rw [hW0]
  clear hW0
  go_loopw [7] (fun i wr => ∃ k : Nat, k ≤ l.length ∧ i = .int .i64 k ∧ NoneYet (fun j => isOf kd c (l.getD j default)) k ∧ Below W0.heap.size W0 wr) (fun i _ => l.length - (intOf i).toNat)
  case atStart => exact ⟨0, Nat.zero_le _, rfl, NoneYet.zero _, Below.refl _ _⟩
  case round =>
    obtain ⟨k, hk, rfl, hs, hbel⟩ := hrel
    rw [← hbel.cell (p := ⟨w.heap.size, _, none⟩) hs0] at d0 d1
    by_cases hlt : k < l.length
    · obtain ⟨b1, o1, e, rfl, hb1, hke, c1, c2, c3, c4⟩ := EvsAt.get4 HL.out hlt
      have hsz := hbel.size
      have hsw : w.heap.size < wr.heap.size := by omega
      rw [← hbel.cell (p := ⟨b1, _, none⟩) hb1] at c1 c2 c3 c4
      have hbr : b1 < wr.heap.size := by omega
      have hpk : isOf kd c (l.getD k default) = isOf kd c e := by rw [List.getD_eq_getElem?_getD, hke]; rfl
      have HK := Lib.hid hpk
      have hisO : isOf kd c e = (e.k == kd && ((ofE e).1 == c.1 && (ofE e).2 == c.2)) := rfl
      have HI := Lib.hid hisO
      clear hpk hke hisO
      cases hd : (e.k == kd) with
      | true =>
        cases hq : ((ofE e).1 == c.1 && (ofE e).2 == c.2) with
        | true =>
          have hI : isOf kd c e = true := by rw [HI.out, hd, hq]; rfl
          have HII := Lib.hid hI
          clear hI
          go_wp2
          go_region_held3 (fun w' => Below wr.heap.size wr w' ∧ (∀ b o, b < wr.heap.size → w'.cell? ⟨b, o, none⟩ = wr.cell? ⟨b, o, none⟩) ∧ ∀ b o, b < wr.heap.size → w'.frozen? ⟨b, o, none⟩ = wr.frozen? ⟨b, o, none⟩)
            (first | exact Keeps.atDraw _ | exact hB | exact Keeps.new hB _ | exact Keeps.new (by assumption) _)
            ((refine (ref19_of e _).mono ?_; rintro r w1 ⟨rfl, hb⟩; have hB := Keeps.call hb (by assumption)))
          go_wp2
          go_ret
          exact ⟨ret_int (by unfold firstE; rw [firstIdx_some hs hlt (by rw [HK.out]; exact HII.out)]; rfl), hbw.trans ((hbel.trans (hB.1.mono hbel.size)).mono (Nat.le_of_lt hs0))⟩
        | false =>
          have hI : isOf kd c e = false := by rw [HI.out, hd, hq]; rfl
          have HII := Lib.hid hI
          clear hI
          go_wp2
          go_region_held3 (fun w' => Below wr.heap.size wr w' ∧ (∀ b o, b < wr.heap.size → w'.cell? ⟨b, o, none⟩ = wr.cell? ⟨b, o, none⟩) ∧ ∀ b o, b < wr.heap.size → w'.frozen? ⟨b, o, none⟩ = wr.frozen? ⟨b, o, none⟩)
            (first | exact Keeps.atDraw _ | exact hB | exact Keeps.new hB _ | exact Keeps.new (by assumption) _)
            ((refine (ref19_of e _).mono ?_; rintro r w1 ⟨rfl, hb⟩; have hB := Keeps.call hb (by assumption)))
          go_wp2
          exact ⟨⟨k + 1, hlt, by go_num, hs.succ (by rw [HK.out]; exact HII.out), hbel.trans (hB.1.mono hbel.size)⟩, by simp [intOf]; omega⟩
      | false =>
        have hI : isOf kd c e = false := by rw [HI.out, hd]; rfl
        have HII := Lib.hid hI
        clear hI
        go_wp2
        go_quiet (fail)
        go_wp2
        exact ⟨⟨k + 1, hlt, by go_num, hs.succ (by rw [HK.out]; exact HII.out), below_drewN hbel _⟩, by simp [intOf]; omega⟩
    · obtain rfl : k = l.length := by omega
      go_wp2
      go_ret
      exact ⟨by unfold firstE; rw [firstIdx_none hs]; rfl, hbw.trans (hbel.mono (Nat.le_of_lt hs0))⟩

set_option maxHeartbeats 800000 in
theorem ref19_same (l m : List (Int × Int)) (u v : Value) (w : World) (hl : CallsAt w u l) (hm : CallsAt w v m) :
    Calls Try.prog 13 #[u, v] w fun r w' => r = .returned (.bool (decide (l = m))) ∧ Below w.heap.size w w' := by
  have HL := Lib.hid hl
  have HM := Lib.hid hm
  obtain ⟨a, ca, rfl, hl1, hl2, hl3, hl4⟩ := hl
  obtain ⟨b, cb, rfl, hm1, hm2, hm3, hm4⟩ := hm
  clear hl3 hl4 hm3 hm4
  unfold maxLen at hl2 hm2
  by_cases hlen : l.length = m.length
  · have hne : ((l.length : Int) != m.length) = false := by simp [hlen]
    have HLEN := Lib.hid hlen
    clear hlen
    go_enter Try.func13, Try.ntmps13
    go_wp2
    clear hne
    go_loopw [5] (fun i wr => ∃ k : Nat, k ≤ l.length ∧ i = .int .i64 k ∧ Hid (l.take k = m.take k) ∧ Below w.heap.size w wr) (fun i _ => l.length - (intOf i).toNat)
    case atStart => exact ⟨0, Nat.zero_le _, rfl, rfl, Below.refl _ _⟩
    case round =>
      obtain ⟨k, hk, rfl, HS, hbel⟩ := hrel
      by_cases hlt : k < l.length
      · obtain ⟨b1, o1, x, rfl, hb1, hx, c1, c2⟩ := CallsAt.get2 HL.out hlt
        obtain ⟨b2, o2, y, rfl, hb2, hy, c3, c4⟩ := CallsAt.get2 HM.out (k := k) (by rw [← HLEN.out]; exact hlt)
        have hlt2 : k < m.length := by rw [← HLEN.out]; exact hlt
        rw [← hbel.cell (p := ⟨b1, _, none⟩) hb1] at c1 c2
        rw [← hbel.cell (p := ⟨b2, _, none⟩) hb2] at c3 c4
        have HX := Lib.hid hx
        have HY := Lib.hid hy
        clear hx hy
        cases hq : (x.1 == y.1 && x.2 == y.2) with
        | true =>
          have hxy : x = y := (sameC_iff x y).1 hq
          have HXY := Lib.hid hxy
          clear hxy
          go_wp2
          go_quiet (fail)
          go_wp2
          refine ⟨⟨k + 1, hlt, by go_num, ?_, below_drewN hbel _⟩, by simp [intOf]; omega⟩
          rw [List.take_add_one, List.take_add_one, HS.out, HX.out, HY.out, HXY.out]
          exact rfl
        | false =>
          have hxy : x ≠ y := by intro h; have h2 := (sameC_iff x y).2 h; unfold sameC at h2; rw [h2] at hq; cases hq
          have HXY := Lib.hid hxy
          clear hxy
          go_wp2
          go_quiet (fail)
          go_wp2
          go_ret
          refine ⟨ret_bool ?_, below_drewN hbel _⟩
          symm
          rw [decide_eq_false_iff_not]
          intro h
          apply HXY.out
          have h1 := HX.out
          rw [h, HY.out] at h1
          exact (Option.some.inj h1).symm
      · go_wp2
        go_ret
        obtain rfl : k = l.length := by omega
        refine ⟨ret_bool ?_, hbel⟩
        symm
        rw [decide_eq_true_iff]
        have := HS.out
        rw [List.take_length, HLEN.out, List.take_length] at this
        exact this
  · have hne : ((l.length : Int) != m.length) = true := by rw [bne_iff_ne]; omega
    go_enter Try.func13, Try.ntmps13
    go_wp2
    go_ret
    exact ⟨ret_bool (by symm; simp; intro h; exact hlen (by rw [h])), Below.refl _ _⟩

set_option maxHeartbeats 800000 in
theorem ref19_open (l : List Ev) (v : Value) (w : World) (hl : EvsAt w v l) (hlen : l.length ≤ 100000000) :
    Calls Try.prog 18 #[v] w fun r w' => GivesCalls w ((callsE (isK 1) l).filter fun c => (firstE (isOf 3 c) l).isNone) r w' := by
  have hlw := hl
  obtain ⟨ad, ca, rfl, hl1, hl2, hl3, hl4⟩ := hl
  clear hl3 hl4
  go_enter Try.func18, Try.ntmps18
  go_wp2_with fail
  refine (ref19_all l _ 1 _ hlw hlen).mono ?_
  rintro r w2 ⟨⟨v2, rfl, h2⟩, hbel2⟩
  have hlw2 := hlw.below hbel2
  obtain ⟨a2, ca2, rfl, hm1, hm2, hm3, hm4⟩ := id h2
  clear hm3 hm4
  unfold maxLen at hm2
  go_wp2
  go_loopw [3, 5] (fun o i wr => ∃ k : Nat, k ≤ (callsE (isK 1) l).length ∧ i = .int .i64 k ∧ Hid (OwnCalls wr w2.heap.size o (((callsE (isK 1) l).take k).filter fun c => (firstE (isOf 3 c) l).isNone)) ∧ Below w2.heap.size w2 wr) (fun _ i _ => (callsE (isK 1) l).length - (intOf i).toNat)
  case atStart => exact ⟨0, Nat.zero_le _, rfl, OwnRows.nil _ _ _ _ _, Below.refl _ _⟩
  case round =>
    obtain ⟨k, hk, rfl, HO, hbel⟩ := hrel
    by_cases hlt : k < (callsE (isK 1) l).length
    · obtain ⟨b1, o1, c, rfl, hb1, hkc, c1, c2⟩ := CallsAt.get2 h2 hlt
      rw [← hbel.cell (p := ⟨b1, _, none⟩) hb1] at c1 c2
      have HS := Lib.hid (filter_snoc (fun c => (firstE (isOf 3 c) l).isNone) hkc)
      have hsz := hbel.size
      have hsz2 := hbel2.size
      have hbr : b1 < wr.heap.size := by omega
      have hle : (((callsE (isK 1) l).take k).filter fun c => (firstE (isOf 3 c) l).isNone).length ≤ l.length :=
        Nat.le_trans (List.length_filter_le _ _) (Nat.le_trans (by rw [List.length_take]; omega) (callsE_le (isK 1) l))
      have hlr := hlw2.below hbel
      clear hkc
      go_wp2_with fail
      refine (ref19_first l _ 3 c _ hlr).mono ?_
      rintro r w4 ⟨rfl, hb4⟩
      have hbel4 := bstep hbel (Nat.le_refl _) hb4
      have HO4 := Lib.hid (HO.out.below hb4)
      rw [← hb4.cell (p := ⟨b1, _, none⟩) hbr] at c1 c2
      obtain ⟨o, ho⟩ : ∃ o, firstE (isOf 3 c) l = o := ⟨_, rfl⟩
      rw [ho]
      have HOO := Lib.hid ho
      clear ho hb4
      cases o with
      | some x =>
        simp only [idxI]
        go_wp2
        refine ⟨⟨k + 1, hlt, by go_num, ?_, hbel4⟩, by simp [intOf]; omega⟩
        rw [HS.out, HOO.out, if_neg (by simp), List.append_nil]
        exact HO4.out
      | none =>
        simp only [idxI]
        go_wp2_with (at_builtin; refine wpList_append_rows callRow_len callRow_one rfl (.tmp 21) (.tmp 26) 26 rfl w2.heap.size 31 _ 16 Try.underlying26 infoCall rfl (by decide) (by decide) _ _ rfl (HO4.out.alloc _) _ [c] rfl (RowsAt.lit callRow_len _ _ [c] (by simp [maxLen])) ?_ ?_ ?_)
        · simp only [List.length_singleton]
          omega
        · have := hbel4.size
          simp
          omega
        intro v1 w5 hown5 hg5 hb5
        have hbel5 : Below w2.heap.size w2 w5 := (hbel4.alloc hbel4.size _).trans hb5
        clear hg5 hb5
        go_wp2
        refine ⟨⟨k + 1, hlt, by go_num, ?_, hbel5⟩, by simp [intOf]; omega⟩
        rw [HS.out, HOO.out, if_pos (show (none : Option Nat).isNone = true from rfl)]
        exact hown5
    · obtain rfl : k = (callsE (isK 1) l).length := by omega
      rw [List.take_length] at HO
      go_wp2
      go_ret
      exact ⟨⟨_, rfl, OwnRows.rows callRow_len HO.out⟩, bstep hbel2 (Nat.le_refl _) hbel⟩

end Go.Proofs.Yteaahepjendjmaa
