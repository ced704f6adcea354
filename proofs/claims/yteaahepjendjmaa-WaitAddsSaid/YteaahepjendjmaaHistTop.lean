/- Walks of package hist, on: Done, Told, Open, Before. -/
import Derived.Test.YteaahepjendjmaaHistFns
namespace Go.Proofs.Yteaahepjendjmaa
open Go.RowKit
set_option linter.unusedVariables false
set_option linter.unusedSimpArgs false

theorem enters_kind : Enters 46 := enters Try.func46 (by kernel_rfl) rfl
theorem enters_of : Enters 48 := enters Try.func48 (by kernel_rfl) rfl
def isK (k : Int) (e : Ev) : Bool := e.k == k
def isOf (k : Int) (c : Int × Int) (e : Ev) : Bool := e.k == k && sameC (ofE e) c
theorem wants_kind {k : Int} {B : Nat} {w : World} (hc : w.cell? ⟨B, 0, none⟩ = some (.int .i64 k)) : Wants w 46 #[.pointer (some ⟨B, 0, none⟩)] (isK k) := by
  intro e W hb
  refine hist_kind1 e k B W ?_
  have hlt := World.block_lt_of_cell? _ _ hc
  rw [hb.cell (p := ⟨B, 0, none⟩) hlt]
  exact hc
theorem wants_of {k : Int} {c : Int × Int} {B B' : Nat} {w : World} (hc : w.cell? ⟨B, 0, none⟩ = some (.int .i64 k)) (h0 : w.cell? ⟨B', 0, none⟩ = some (.int .i64 c.1)) (h1 : w.cell? ⟨B', 1, none⟩ = some (.int .i64 c.2)) :
    Wants w 48 #[.pointer (some ⟨B, 0, none⟩), .pointer (some ⟨B', 0, none⟩)] (isOf k c) := by
  intro e W hb
  have hlt := World.block_lt_of_cell? _ _ hc
  have hlt' := World.block_lt_of_cell? _ _ h0
  refine hist_of1 e k c B B' W ?_ ?_ ?_
  · rw [hb.cell (p := ⟨B, 0, none⟩) hlt]; exact hc
  · rw [hb.cell (p := ⟨B', 0, none⟩) hlt']; exact h0
  · rw [hb.cell (p := ⟨B', 1, none⟩) hlt']; exact h1

set_option maxHeartbeats 400000 in
theorem hist_done (l : List Ev) (v : Value) (w : World) (hl : EvsAt w v l) (hlen : l.length ≤ 100000000) :
    Calls Try.prog 14 #[v] w fun r w' => GivesCalls w (callsE (isK 2) l) r w' := by
  have hlw := hl
  obtain ⟨a, ca, rfl, hl1, hl2, hl3, hl4⟩ := hl
  clear hl3 hl4
  go_enter Try.func14, Try.ntmps14
  go_wp2_with fail
  refine (hist_kind _ _).mono ?_
  rintro r w1 ⟨B, rfl, hc, hb⟩
  have hlw1 := hlw.below hb
  go_wp2_with fail
  refine (pick_calls (isK 2) _ enters_kind _ l _ _ hlw1 hlen (wants_kind hc)).mono ?_
  rintro r w2 ⟨⟨v2, rfl, h2⟩, hb2⟩
  go_wp2
  go_ret
  exact ⟨⟨_, rfl, h2⟩, bstep hb (Nat.le_refl _) hb2⟩
set_option maxHeartbeats 400000 in
theorem hist_told (l : List Ev) (v : Value) (w : World) (hl : EvsAt w v l) (hlen : l.length ≤ 100000000) :
    Calls Try.prog 16 #[v] w fun r w' => GivesCalls w (callsE (isK 3) l) r w' := by
  have hlw := hl
  obtain ⟨a, ca, rfl, hl1, hl2, hl3, hl4⟩ := hl
  clear hl3 hl4
  go_enter Try.func16, Try.ntmps16
  go_wp2_with fail
  refine (hist_kind _ _).mono ?_
  rintro r w1 ⟨B, rfl, hc, hb⟩
  have hlw1 := hlw.below hb
  go_wp2_with fail
  refine (pick_calls (isK 3) _ enters_kind _ l _ _ hlw1 hlen (wants_kind hc)).mono ?_
  rintro r w2 ⟨⟨v2, rfl, h2⟩, hb2⟩
  go_wp2
  go_ret
  exact ⟨⟨_, rfl, h2⟩, bstep hb (Nat.le_refl _) hb2⟩

/-- told, called, and ahead -/
def ahead2 : Option Nat → Option Nat → Bool
  | some i, some k => decide (i < k)
  | _, _ => false
def aheadB (l : List Ev) (a b : Int × Int) : Bool := ahead2 (firstE (isOf 3 a) l) (firstE (isOf 1 b) l)
theorem filter_snoc {α : Type} (q : α → Bool) {l : List α} {k : Nat} {c : α} (h : l[k]? = some c) : (l.take (k + 1)).filter q = (l.take k).filter q ++ (if q c then [c] else []) := by
  rw [List.take_add_one, h, Option.toList_some, List.filter_append]
  congr 1
  cases hp : q c <;> simp [hp]
set_option maxHeartbeats 800000 in
theorem hist_before (l : List Ev) (a b : Int × Int) (v : Value) (w : World) (hl : EvsAt w v l) :
    Calls Try.prog 20 #[v, callV a, callV b] w fun r w' => r = .returned (.bool (aheadB l a b)) ∧ Below w.heap.size w w' := by
  have hlw := hl
  obtain ⟨ad, ca, rfl, hl1, hl2, hl3, hl4⟩ := hl
  clear hl3 hl4
  go_enter Try.func20, Try.ntmps20
  go_wp2_with fail
  obtain ⟨W0, hW0⟩ : ∃ W0, ((w.alloc (.cells #[.int .i64 a.1, .int .i64 a.2] 31)).alloc (.cells #[.int .i64 b.1, .int .i64 b.2] 31)) = W0 := ⟨_, rfl⟩
  have d0 : W0.cell? ⟨w.heap.size + 1, 0, none⟩ = some (.int .i64 b.1) := by rw [← hW0]; simp [go_sem]
  have d1 : W0.cell? ⟨w.heap.size + 1, 1, none⟩ = some (.int .i64 b.2) := by rw [← hW0]; simp [go_sem]
  have hs0 : w.heap.size + 1 < W0.heap.size := by rw [← hW0]; simp
  have hbw : Below w.heap.size w W0 := by rw [← hW0]; exact ((Below.refl _ _).alloc (Nat.le_refl _) _).alloc (by simp) _
  have hl0 := hlw.below hbw
  rw [hW0]
  clear hW0 hlw
  refine (hist_of 3 a _).mono ?_
  rintro r w1 ⟨B, B', rfl, e1, e2, e3, hb1⟩
  have hw1 := wants_of e1 e2 e3
  have hl1 := hl0.below hb1
  clear e1 e2 e3 hl0
  go_wp2_with fail
  refine (pick_first _ _ enters_of _ l _ _ hl1 hw1).mono ?_
  rintro r w2 ⟨rfl, hb2⟩
  have hbel2 := bstep hb1 (Nat.le_refl _) hb2
  have hl2 := hl1.below hb2
  rw [← hbel2.cell (p := ⟨w.heap.size + 1, _, none⟩) hs0] at d0 d1
  obtain ⟨oa, hoa⟩ : ∃ o, firstE (isOf 3 a) l = o := ⟨_, rfl⟩
  obtain ⟨ob, hob⟩ : ∃ o, firstE (isOf 1 b) l = o := ⟨_, rfl⟩
  have hA : aheadB l a b = ahead2 oa ob := by rw [← hoa, ← hob]; rfl
  have HA := Lib.hid hA
  have HOB := Lib.hid hob
  simp only [hoa, idxVal]
  clear hA hob hoa hw1 hl1 hb1 hb2
  go_wp2_with fail
  refine (hist_of 1 b _).mono ?_
  rintro r w3 ⟨B3, B4, rfl, e1, e2, e3, hb3⟩
  have hw3 := wants_of e1 e2 e3
  have hl3 := hl2.below hb3
  have hbel3 := bstep hbel2 (Nat.le_refl _) hb3
  clear e1 e2 e3 hl2 hb3
  go_wp2_with fail
  refine (pick_first _ _ enters_of _ l _ _ hl3 hw3).mono ?_
  rintro r w4 ⟨rfl, hb4⟩
  have hbel4 := hbw.trans ((bstep hbel3 (Nat.le_refl _) hb4).mono (by omega))
  rw [HOB.out]
  simp only [idxVal]
  cases oa with
  | none =>
    simp only [Option.isSome_none, Option.getD_none]
    cases ob with
    | none =>
      simp only [Option.isSome_none, Option.getD_none]
      go_wp2
      go_ret
      exact ⟨ret_bool (by rw [HA.out]; rfl), hbel4⟩
    | some k =>
      simp only [Option.isSome_some, Option.getD_some]
      go_wp2
      go_ret
      exact ⟨ret_bool (by rw [HA.out]; rfl), hbel4⟩
  | some i =>
    simp only [Option.isSome_some, Option.getD_some]
    cases ob with
    | none =>
      simp only [Option.isSome_none, Option.getD_none]
      go_wp2
      go_ret
      exact ⟨ret_bool (by rw [HA.out]; rfl), hbel4⟩
    | some k =>
      simp only [Option.isSome_some, Option.getD_some]
      go_wp2
      go_ret
      exact ⟨ret_bool (by rw [HA.out]; simp [ahead2]), hbel4⟩

set_option maxHeartbeats 800000 in
theorem hist_open (l : List Ev) (v : Value) (w : World) (hl : EvsAt w v l) (hlen : l.length ≤ 100000000) :
    Calls Try.prog 17 #[v] w fun r w' => GivesCalls w ((callsE (isK 1) l).filter fun c => (firstE (isOf 3 c) l).isNone) r w' := by
  have hlw := hl
  obtain ⟨ad, ca, rfl, hl1, hl2, hl3, hl4⟩ := hl
  clear hl3 hl4
  go_enter Try.func17, Try.ntmps17
  go_wp2_with fail
  refine (hist_kind _ _).mono ?_
  rintro r w1 ⟨B, rfl, hc, hb⟩
  have hlw1 := hlw.below hb
  go_wp2_with fail
  refine (pick_calls (isK 1) _ enters_kind _ l _ _ hlw1 hlen (wants_kind hc)).mono ?_
  rintro r w2 ⟨⟨v2, rfl, h2⟩, hb2⟩
  have hlw2 := hlw1.below hb2
  have hbel2 := bstep hb (Nat.le_refl _) hb2
  obtain ⟨a2, ca2, rfl, hm1, hm2, hm3, hm4⟩ := id h2
  clear hm3 hm4
  unfold maxLen at hm2
  go_wp2
  go_loopw [3, 12] (fun o i wr => ∃ k : Nat, k ≤ (callsE (isK 1) l).length ∧ i = .int .i64 k ∧ Hid (OwnCalls wr w2.heap.size o (((callsE (isK 1) l).take k).filter fun c => (firstE (isOf 3 c) l).isNone)) ∧ Below w2.heap.size w2 wr) (fun _ i _ => (callsE (isK 1) l).length - (intOf i).toNat)
  case atStart => exact ⟨0, Nat.zero_le _, rfl, OwnRows.nil _ _ _ _ _, Below.refl _ _⟩
  case round =>
    obtain ⟨k, hk, rfl, HO, hbel⟩ := hrel
    by_cases hlt : k < (callsE (isK 1) l).length
    · obtain ⟨b1, o1, c, rfl, hb1, hkc, c1, c2⟩ := CallsAt.get2 h2 hlt
      rw [← hbel.cell (p := ⟨b1, _, none⟩) hb1] at c1 c2
      have HS := Lib.hid (filter_snoc (fun c => (firstE (isOf 3 c) l).isNone) hkc)
      have hsz := hbel.size
      have hsz2 := hbel2.size
      have hle : (((callsE (isK 1) l).take k).filter fun c => (firstE (isOf 3 c) l).isNone).length ≤ l.length :=
        Nat.le_trans (List.length_filter_le _ _) (Nat.le_trans (by rw [List.length_take]; omega) (callsE_le (isK 1) l))
      clear hkc
      go_wp2_with fail
      refine (hist_of 3 c _).mono ?_
      rintro r w3 ⟨B3, B4, rfl, e1, e2, e3, hb3⟩
      have hw3 := wants_of e1 e2 e3
      have hbel3 := bstep1 hbel (Nat.le_refl _) hb3
      have hl3 := hlw2.below hbel3
      have HO3 := Lib.hid ((HO.out.alloc _).below hb3)
      obtain ⟨hc3, hf3⟩ := bcell hb3
      have g1 : w3.cell? ⟨wr.heap.size, 0, none⟩ = some (.int .i64 c.1) := by rw [hc3 _ _ (by simp)]; simp [go_sem]
      have g2 : w3.cell? ⟨wr.heap.size, 1, none⟩ = some (.int .i64 c.2) := by rw [hc3 _ _ (by simp)]; simp [go_sem]
      clear hc3 hf3 e1 e2 e3 hb3
      go_wp2_with fail
      refine (pick_first _ _ enters_of _ l _ _ hl3 hw3).mono ?_
      rintro r w4 ⟨rfl, hb4⟩
      have hbel4 := bstep hbel3 (Nat.le_refl _) hb4
      have HO4 := Lib.hid (HO3.out.below hb4)
      have hs3 : wr.heap.size < w3.heap.size := World.block_lt_of_cell? _ _ g1
      rw [← hb4.cell (p := ⟨wr.heap.size, _, none⟩) hs3] at g1 g2
      obtain ⟨o, ho⟩ : ∃ o, firstE (isOf 3 c) l = o := ⟨_, rfl⟩
      rw [ho]
      have HOO := Lib.hid ho
      simp only [idxVal]
      clear ho hw3 hl3 hb4 hs3 HO3
      cases o with
      | some x =>
        simp only [Option.isSome_some, Option.getD_some]
        go_wp2
        refine ⟨⟨k + 1, hlt, by go_num, ?_, hbel4⟩, by simp [intOf]; omega⟩
        rw [HS.out, HOO.out, if_neg (by simp), List.append_nil]
        exact HO4.out
      | none =>
        simp only [Option.isSome_none, Option.getD_none]
        go_wp2_with (at_builtin; refine wpList_append_rows callRow_len callRow_one rfl (.tmp 25) (.tmp 27) 26 rfl w2.heap.size 31 _ 16 Try.underlying26 infoCall rfl (by decide) (by decide) _ _ rfl (HO4.out.alloc _) _ [c] rfl (RowsAt.lit callRow_len _ _ [c] (by simp [maxLen])) ?_ ?_ ?_)
        · simp only [List.length_singleton]
          omega
        · have := hbel4.size
          simp
          omega
        intro v1 w5 hown5 hg5 hb5
        have hbel5 : Below w2.heap.size w2 w5 := (hbel4.alloc hbel4.size _).trans hb5
        clear hg5 hb5
        go_wp2
        refine ⟨⟨k + 1, hlt, by go_num, ?_, hbel5⟩, by simp [intOf]; omega⟩
        rw [HS.out, HOO.out, if_pos (show (none : Option Nat).isNone = true from rfl)]
        exact hown5
    · obtain rfl : k = (callsE (isK 1) l).length := by omega
      rw [List.take_length] at HO
      go_wp2
      go_ret
      exact ⟨⟨_, rfl, OwnRows.rows callRow_len HO.out⟩, bstep hbel2 (Nat.le_refl _) hbel⟩

end Go.Proofs.Yteaahepjendjmaa
