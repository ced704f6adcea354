/- The walks of hist.once and hist.Mixed. -/
import Derived.Test.YteaahepjendjmaaHistFits
namespace Go.Proofs.Yteaahepjendjmaa
open Go.RowKit
set_option linter.unusedVariables false
set_option linter.unusedSimpArgs false

def onceStep (o : List (Int × Int)) (c : Int × Int) : List (Int × Int) := if c ∈ o then o else o ++ [c]
def onceL (l : List (Int × Int)) : List (Int × Int) := l.foldl onceStep []
theorem onceL_snoc {l : List (Int × Int)} {k : Nat} {c : Int × Int} (h : l[k]? = some c) : onceL (l.take (k + 1)) = onceStep (onceL (l.take k)) c := by
  unfold onceL
  rw [List.take_add_one, h, Option.toList_some, List.foldl_append]
  rfl
theorem onceL_le (l : List (Int × Int)) : ∀ k, (onceL (l.take k)).length ≤ k
  | 0 => by simp [onceL]
  | k + 1 => by
    have ih := onceL_le l k
    cases h : l[k]? with
    | none =>
      rw [List.take_add_one, h]
      simp
      omega
    | some c =>
      rw [onceL_snoc h]
      unfold onceStep
      split
      · omega
      · simp
        omega

set_option maxHeartbeats 800000 in
theorem hist_once (l : List (Int × Int)) (v : Value) (w : World) (hl : CallsAt w v l) (hlen : l.length ≤ 100000000) :
    Calls Try.prog 45 #[v] w fun r w' => GivesCalls w (onceL l) r w' := by
  have HL := Lib.hid hl
  obtain ⟨a, ca, rfl, hl1, hl2, hl3, hl4⟩ := hl
  clear hl3 hl4
  unfold maxLen at hl2
  go_enter Try.func45, Try.ntmps45
  go_wp2
  go_step3
  go_wp2
  go_step3
  go_wp2
  go_loopg [3, 10] l.length (fun g o i wr => ∃ k : Nat, k + g = l.length ∧ i = .int .i64 k ∧ Hid (OwnCalls wr w.heap.size o (onceL (l.take k))) ∧ Below w.heap.size w wr)
  case atStart => exact ⟨0, by omega, rfl, OwnRows.nil _ _ _ _ _, Below.refl _ _⟩
  case round =>
    obtain ⟨k, hkg, rfl, HO, hbel⟩ := hrel
    obtain ⟨W2, hW2⟩ : ∃ W2, wr = W2 := ⟨_, rfl⟩
    rw [hW2] at hbel HO ⊢
    clear hW2 wr
    have hs1 := hbel.size
    by_cases hlt : k < l.length
    · obtain ⟨b1, o1, c, rfl, hb1, hkc, c1, c2⟩ := CallsAt.get2 HL.out hlt
      rw [← hbel.cell (p := ⟨b1, _, none⟩) hb1] at c1 c2
      have hbr : b1 < W2.heap.size := by omega
      have HS := Lib.hid (onceL_snoc hkc)
      have hle := onceL_le l k
      obtain ⟨T, hT⟩ : ∃ T, onceL (l.take k) = T := ⟨_, rfl⟩
      rw [hT] at HO HS hle
      clear hkc hT
      have hrows := OwnRows.rows callRow_len HO.out
      obtain ⟨at', ct, rfl, ht1, ht2, ht3, ht4⟩ := id hrows
      have HR := Lib.hid hrows
      clear ht3 ht4 hrows
      unfold maxLen at ht2
      go_wp2
      obtain ⟨W3, hW3⟩ : ∃ W3, W2.alloc (.cells #[.int .i64 c.1, .int .i64 c.2] 31) = W3 := ⟨_, rfl⟩
      have d0 : W3.cell? ⟨W2.heap.size, 0, none⟩ = some (.int .i64 c.1) := by rw [← hW3]; simp [go_sem]
      have d1 : W3.cell? ⟨W2.heap.size, 1, none⟩ = some (.int .i64 c.2) := by rw [← hW3]; simp [go_sem]
      have hs0 : W2.heap.size < W3.heap.size := by rw [← hW3]; simp
      have hbw2 : Below W2.heap.size W2 W3 := by rw [← hW3]; exact (Below.refl _ _).alloc (Nat.le_refl _) _
      rw [hW3]
      clear hW3
      go_loopg [16] T.length (fun g i wr => ∃ m : Nat, m + g = T.length ∧ i = .int .i64 m ∧ Hid (NoneYet (fun j => sameC c (T.getD j default)) m) ∧ Below W3.heap.size W3 wr)
      case atStart => exact ⟨0, by omega, rfl, NoneYet.zero _, Below.refl _ _⟩
      case round =>
        obtain ⟨m, hmg, rfl, HN, hbel2⟩ := hrel
        have hs2 := hbel2.size
        rw [← hbel2.cell (p := ⟨W2.heap.size, _, none⟩) hs0] at d0 d1
        have hbel3 := (hbw2.trans (hbel2.mono (by omega)))
        by_cases hlt2 : m < T.length
        · obtain ⟨b2, o2, d, rfl, hb2, hkd, c3, c4⟩ := CallsAt.get2 HR.out hlt2
          rw [← hbel3.cell (p := ⟨b2, _, none⟩) hb2] at c3 c4
          have hbr2 : b2 < wr.heap.size := by omega
          have hbr3 : W2.heap.size < wr.heap.size := by omega
          have hgd : T.getD m default = d := by rw [List.getD_eq_getElem?_getD, hkd]; rfl
          have HG := Lib.hid hgd
          have HKD := Lib.hid hkd
          clear hgd hkd
          cases hd : (c.1 == d.1 && c.2 == d.2) with
          | true =>
            have hcd : c ∈ T := by
              rw [show c = d from (sameC_iff c d).1 hd]
              exact List.mem_of_getElem? HKD.out
            have HCD := Lib.hid hcd
            clear hcd
            go_wp2
            go_roundg (l.length - (k + 1))
            case measure => omega
            case rel =>
              refine ⟨k + 1, by omega, by go_num, ?_, bstep hbel (Nat.le_refl _) (hbel3.alloc (by omega) _)⟩
              rw [HS.out, onceStep, if_pos HCD.out]
              exact HO.out.below (hbel3.alloc (by omega) _)
          | false =>
            go_wp2
            go_roundg (T.length - (m + 1))
            case measure => omega
            case rel => exact ⟨m + 1, by omega, by go_num, HN.out.succ (by show sameC c _ = false; rw [HG.out]; exact hd), hbel2.alloc (by omega) _⟩
        · obtain rfl : m = T.length := by omega
          have hnc : c ∉ T := by
            intro h
            obtain ⟨j, hj, hjc⟩ := List.getElem_of_mem h
            have := HN.out j hj
            simp only [List.getD_eq_getElem?_getD, List.getElem?_eq_getElem hj, Option.getD_some, hjc] at this
            rw [(sameC_iff c c).2 rfl] at this
            cases this
          have HNC := Lib.hid hnc
          clear hnc
          have HO3 := Lib.hid (HO.out.below hbel3)
          go_wp2_with (at_builtin; refine wpList_append_rows callRow_len callRow_one rfl (.tmp 24) (.tmp 26) 26 rfl w.heap.size 31 _ 16 Try.underlying26 infoCall rfl (by decide) (by decide) _ _ rfl (HO3.out.alloc _) _ [c] rfl (RowsAt.lit callRow_len _ _ [c] (by simp [maxLen])) ?_ ?_ ?_)
          · simp only [List.length_singleton]
            omega
          · simp
            omega
          intro v1 w5 hown5 hg5 hb5
          have hbel5 : Below w.heap.size w w5 := ((bstep hbel (Nat.le_refl _) hbel3).alloc (by omega) _).trans hb5
          clear hg5 hb5
          go_wp2
          go_roundg (l.length - (k + 1))
          case measure => omega
          case rel =>
            refine ⟨k + 1, by omega, by go_num, ?_, hbel5⟩
            rw [HS.out, onceStep, if_neg HNC.out]
            exact hown5
    · obtain rfl : k = l.length := by omega
      rw [List.take_length] at HO
      go_wp2
      first | rw [Exit.noGoto_ret] | skip
      go_ret
      exact ⟨⟨_, rfl, OwnRows.rows callRow_len HO.out⟩, hbel⟩

/-- How many of these went on at the same time as one. -/
def besideN (l : List Ev) (a : Int × Int) (t : List (Int × Int)) : Nat := (t.filter fun b => !aheadB l a b && !aheadB l b a).length
def mixN (l : List Ev) (t : List (Int × Int)) : Nat → Nat
  | 0 => 0
  | k + 1 => mixN l t k + besideN l (t.getD k default) (t.take k)
theorem besideN_snoc {l : List Ev} {a b : Int × Int} {t : List (Int × Int)} {m : Nat} (h : t[m]? = some b) : besideN l a (t.take (m + 1)) = besideN l a (t.take m) + if (!aheadB l a b && !aheadB l b a) = true then 1 else 0 := by
  unfold besideN
  rw [List.take_add_one, h, Option.toList_some, List.filter_append, List.length_append]
  congr 1
  cases hb : (!aheadB l a b && !aheadB l b a) <;> simp [hb]
theorem besideN_le (l : List Ev) (a : Int × Int) (t : List (Int × Int)) : besideN l a t ≤ t.length := List.length_filter_le _ _
theorem mixN_le (l : List Ev) (t : List (Int × Int)) : ∀ k, mixN l t k ≤ k * 100000000 ∨ 100000000 < k
  | 0 => .inl (by simp [mixN])
  | k + 1 => by
    rcases mixN_le l t k with h | h
    · by_cases hk : 100000000 < k + 1
      · exact .inr hk
      · left
        have := besideN_le l (t.getD k default) (t.take k)
        have h2 : (t.take k).length ≤ k := List.length_take_le _ _
        rw [mixN]
        omega
    · right
      omega

set_option maxHeartbeats 1600000 in
theorem hist_mixed (l : List Ev) (v : Value) (w : World) (hl : EvsAt w v l) (hlen : l.length ≤ 100000000) :
    Calls Try.prog 34 #[v] w fun r w' => r = .returned (.int .i64 (mixN l (onceL (callsE (isK 3) l)) (onceL (callsE (isK 3) l)).length : Nat)) ∧ Below w.heap.size w w' := by
  have HL := Lib.hid hl
  obtain ⟨a, ca, rfl, hl1, hl2, hl3, hl4⟩ := hl
  clear hl3 hl4
  obtain ⟨T, hT⟩ : ∃ T, onceL (callsE (isK 3) l) = T := ⟨_, rfl⟩
  rw [hT]
  have HT := Lib.hid hT
  clear hT
  go_enter Try.func34, Try.ntmps34
  go_wp2_with fail
  refine (hist_told l _ _ HL.out hlen).mono ?_
  rintro r w1 ⟨⟨v1, rfl, h1⟩, hb1⟩
  have hle1 := callsE_le (isK 3) l
  go_wp2_with fail
  refine (hist_once _ _ _ h1 (by omega)).mono ?_
  rintro r w2 ⟨⟨v2, rfl, h2⟩, hb2⟩
  have hbel2 := bstep hb1 (Nat.le_refl _) hb2
  have hle2 := onceL_le (callsE (isK 3) l) (callsE (isK 3) l).length
  rw [List.take_length] at hle2
  rw [HT.out] at h2 hle2
  clear h1 hb1 hb2
  have HR := Lib.hid h2
  obtain ⟨at', ct, rfl, ht1, ht2, ht3, ht4⟩ := h2
  clear ht3 ht4
  unfold maxLen at ht2
  have HLEN := Lib.hid hlen
  have hTlen : T.length ≤ 100000000 := by omega
  clear hle1 hle2 hlen
  have hs2 := hbel2.size
  go_wp2
  go_loopw [4, 14] (fun n i wr => ∃ k : Nat, k ≤ T.length ∧ i = .int .i64 k ∧ n = .int .i64 (mixN l T k : Nat) ∧ Below w2.heap.size w2 wr) (fun _ i _ => T.length - (intOf i).toNat)
  case atStart => exact ⟨0, Nat.zero_le _, rfl, rfl, Below.refl _ _⟩
  case round =>
    obtain ⟨k, hk, rfl, rfl, hbel⟩ := hrel
    obtain ⟨W2, hW2⟩ : ∃ W2, wr = W2 := ⟨_, rfl⟩
    rw [hW2] at hbel ⊢
    clear hW2 wr
    have hs3 := hbel.size
    by_cases hlt : k < T.length
    · obtain ⟨b1, o1, c, rfl, hb1, hkc, c1, c2⟩ := CallsAt.get2 HR.out hlt
      rw [← hbel.cell (p := ⟨b1, _, none⟩) hb1] at c1 c2
      have hbr : b1 < W2.heap.size := by omega
      have hgd : T.getD k default = c := by rw [List.getD_eq_getElem?_getD, hkc]; rfl
      have hmixs : mixN l T (k + 1) = mixN l T k + besideN l c (T.take k) := by rw [mixN, hgd]
      have HM := Lib.hid hmixs
      have hmixl : mixN l T k ≤ 10000000000000000 := by
        rcases mixN_le l T k with h | h
        · omega
        · omega
      obtain ⟨mx, hmx⟩ : ∃ mx, mixN l T k = mx := ⟨_, rfl⟩
      rw [hmx] at HM hmixl
      simp only [hmx]
      have hkct : (k : Int) ≤ ct := by omega
      clear hgd hmixs hkc hmx
      go_wp2
      obtain ⟨W3, hW3⟩ : ∃ W3, W2.alloc (.cells #[.int .i64 c.1, .int .i64 c.2] 31) = W3 := ⟨_, rfl⟩
      have d0 : W3.cell? ⟨W2.heap.size, 0, none⟩ = some (.int .i64 c.1) := by rw [← hW3]; simp [go_sem]
      have d1 : W3.cell? ⟨W2.heap.size, 1, none⟩ = some (.int .i64 c.2) := by rw [← hW3]; simp [go_sem]
      have hs0 : W2.heap.size < W3.heap.size := by rw [← hW3]; simp
      have hbw2 : Below W2.heap.size W2 W3 := by rw [← hW3]; exact (Below.refl _ _).alloc (Nat.le_refl _) _
      rw [hW3]
      clear hW3
      go_loopw [4, 23] (fun n i wr => ∃ m : Nat, m ≤ k ∧ i = .int .i64 m ∧ n = .int .i64 ((mx + besideN l c (T.take m) : Nat) : Int) ∧ Below W3.heap.size W3 wr) (fun _ i _ => k - (intOf i).toNat)
      case atStart => exact ⟨0, Nat.zero_le _, rfl, by simp [besideN], Below.refl _ _⟩
      case round =>
        obtain ⟨m, hm, rfl, rfl, hbel3⟩ := hrel
        have hs4 := hbel3.size
        have hbel4 := hbw2.trans (hbel3.mono (by omega))
        rw [← hbel3.cell (p := ⟨W2.heap.size, _, none⟩) hs0] at d0 d1
        by_cases hlt2 : m < k
        · obtain ⟨b2, o2, d, hbo, hb2, hkd, c3, c4⟩ := CallsAt.get2 HR.out (show m < T.length by omega)
          simp only [Option.some.injEq, Addr.mk.injEq] at hbo
          obtain ⟨rfl, rfl, _⟩ := hbo
          rw [← (bstep hbel (Nat.le_refl _) hbel4).cell (p := ⟨b1, _, none⟩) hb1] at c3 c4
          have hbr2 : b1 < wr.heap.size := by omega
          have hbr3 : W2.heap.size < wr.heap.size := by omega
          have HS := Lib.hid (besideN_snoc (l := l) (a := c) hkd)
          have hble := besideN_le l c (T.take m)
          have hble2 : (T.take m).length ≤ m := List.length_take_le _ _
          obtain ⟨bn, hbn⟩ : ∃ bn, besideN l c (T.take m) = bn := ⟨_, rfl⟩
          rw [hbn] at HS hble
          simp only [hbn]
          clear hkd hbn
          have HL5 := Lib.hid (HL.out.below ((bstep hbel2 (Nat.le_refl _) (bstep hbel (Nat.le_refl _) hbel4)).alloc (by omega) (.cells #[.int .i64 d.1, .int .i64 d.2] 31)))
          go_wp2_with fail
          refine (hist_before l c d _ _ HL5.out).mono ?_
          rintro r w5 ⟨rfl, hb5⟩
          have hbel5 := bstep1 hbel3 (Nat.le_refl _) hb5
          obtain ⟨hc5, hf5⟩ := bcell hb5
          have f0 : w5.cell? ⟨wr.heap.size, 0, none⟩ = some (.int .i64 d.1) := by rw [hc5 _ _ (by simp)]; simp [go_sem]
          have f1 : w5.cell? ⟨wr.heap.size, 1, none⟩ = some (.int .i64 d.2) := by rw [hc5 _ _ (by simp)]; simp [go_sem]
          have HL6 := Lib.hid (HL5.out.below hb5)
          rw [hbel3.cell (p := ⟨W2.heap.size, _, none⟩) hs0, ← hbel5.cell (p := ⟨W2.heap.size, _, none⟩) hs0] at d0 d1
          clear hc5 hf5 hb5 c1 c2 c3 c4
          cases ha : aheadB l c d with
          | true =>
            rw [ha] at HS
            go_wp2
            exact ⟨⟨m + 1, hlt2, by go_num, by rw [HS.out]; simp, hbel5⟩, by simp [intOf]; omega⟩
          | false =>
            rw [ha] at HS
            go_wp2_with fail
            refine (hist_before l d c _ _ HL6.out).mono ?_
            rintro r w6 ⟨rfl, hb6⟩
            have hbel6 := bstep hbel5 (Nat.le_refl _) hb6
            cases hb : aheadB l d c with
            | true =>
              rw [hb] at HS
              go_wp2
              exact ⟨⟨m + 1, hlt2, by go_num, by rw [HS.out]; simp, hbel6⟩, by simp [intOf]; omega⟩
            | false =>
              rw [hb] at HS
              go_wp2
              exact ⟨⟨m + 1, hlt2, by go_num, by rw [HS.out]; simp; omega, hbel6⟩, by simp [intOf]; omega⟩
        · obtain rfl : m = k := by omega
          go_wp2
          exact ⟨⟨m + 1, hlt, by go_num, by rw [HM.out], bstep hbel (Nat.le_refl _) hbel4⟩, by simp [intOf]; omega⟩
    · obtain rfl : k = T.length := by omega
      go_wp2
      go_ret
      exact ⟨rfl, bstep hbel2 (Nat.le_refl _) hbel⟩

end Go.Proofs.Yteaahepjendjmaa
