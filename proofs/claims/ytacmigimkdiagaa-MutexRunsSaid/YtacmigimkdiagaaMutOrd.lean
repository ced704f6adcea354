/- Walks of package mutex: whether waits are ordered. -/
import Derived.Test.YtacmigimkdiagaaMutFns
namespace Go.Proofs.Ytacmigimkdiagaa
open Go.RowKit
set_option linter.unusedVariables false
set_option linter.unusedSimpArgs false

theorem mem_getD {l : List Int} {x : Int} : x ∈ l ↔ ∃ j, j < l.length ∧ l.getD j 0 = x := by
  rw [List.mem_iff_getElem]
  constructor
  · rintro ⟨j, h, rfl⟩
    exact ⟨j, h, by simp [h]⟩
  · rintro ⟨j, h, rfl⟩
    exact ⟨j, h, by simp [h]⟩
theorem mem_dropD {l : List Int} {k : Nat} {x : Int} : x ∈ l.drop k ↔ ∃ j, k ≤ j ∧ j < l.length ∧ l.getD j 0 = x := by
  rw [mem_getD]
  constructor
  · rintro ⟨j, h, e⟩
    rw [List.length_drop] at h
    refine ⟨k + j, by omega, by omega, ?_⟩
    rw [← e]
    simp [List.getD_eq_getElem?_getD, List.getElem?_drop]
  · rintro ⟨j, h1, h2, e⟩
    refine ⟨j - k, by rw [List.length_drop]; omega, ?_⟩
    rw [← e]
    simp [List.getD_eq_getElem?_getD, List.getElem?_drop, show k + (j - k) = j by omega]
theorem heldB_ids' {t : List Int} {id : Int} (h : heldB t id = true) : ∃ k : Nat, id = (k : Int) ∧ k < t.length := by
  unfold heldB at h
  simp at h
  exact ⟨id.toNat, by omega, by omega⟩
/-- Does an arm hold what it waits for, or above? -/
def badAt (t ws : List Int) (i : Nat) : Bool := heldB t (ws.getD i 0) && decide (((i + 1 : Nat) : Int) ∈ t.drop (ws.getD i 0).toNat)
def orderedB (t ws : List Int) : Bool := rightO t && decide (ws.length ≤ 8) && (firstIdx (badAt t ws) ws.length).isNone
theorem orderedB_no1 {t ws : List Int} (h : rightO t = false) : orderedB t ws = false := by unfold orderedB; rw [h]; rfl
theorem orderedB_no2 {t ws : List Int} (h : ¬ ws.length ≤ 8) : orderedB t ws = false := by unfold orderedB; rw [decide_eq_false h, Bool.and_false]; rfl
theorem orderedB_no3 {t ws : List Int} {k : Nat} (hs : NoneYet (badAt t ws) k) (hk : k < ws.length) (hb : badAt t ws k = true) : orderedB t ws = false := by
  unfold orderedB
  rw [firstIdx_some hs hk hb]
  simp
theorem orderedB_yes {t ws : List Int} (h1 : rightO t = true) (h2 : ws.length ≤ 8) (hs : NoneYet (badAt t ws) ws.length) : orderedB t ws = true := by
  unfold orderedB
  rw [firstIdx_none hs, h1, decide_eq_true h2]
  rfl

def idxAt (l : List Int) (x : Int) : Int := idxI (firstIdx (fun j => l.getD j 0 == x) l.length)
set_option maxHeartbeats 800000 in
theorem slices_index (l : List Int) (v : Value) (x : Int) (w : World) (hl : IntsAt w v l) :
    Calls Try.prog 63 #[v, .int .i64 x] w fun e w' => e = .returned (.int .i64 (idxAt l x)) ∧ w = w' := by
  have HL := Lib.hid hl
  obtain ⟨a, ca, rfl, hl1, hl2, hl3, hl4⟩ := hl
  clear hl3 hl4
  unfold maxLen at hl2
  go_enter Try.func63, Try.ntmps63
  go_wp2
  go_loop [8] (fun i => ∃ k : Nat, k ≤ l.length ∧ i = .int .i64 k ∧ NoneYet (fun j => l.getD j 0 == x) k) (fun i => l.length - (intOf i).toNat)
  case atStart => exact ⟨0, Nat.zero_le _, rfl, NoneYet.zero _⟩
  case round =>
    obtain ⟨k, hk, rfl, hs⟩ := hrel
    by_cases hlt : k < l.length
    · obtain ⟨b1, o1, rfl, hb1, c1⟩ := HL.out.get hlt
      obtain ⟨y, hy⟩ : ∃ y, l.getD k 0 = y := ⟨_, rfl⟩
      rw [hy] at c1
      have HY := Lib.hid hy
      clear hy
      cases hd : (x == y) with
      | true =>
        have HD := Lib.hid (show (fun j => l.getD j 0 == x) k = true by show (l.getD k 0 == x) = true; rw [HY.out]; rw [beq_iff_eq] at hd ⊢; exact hd.symm)
        go_wp2
        go_ret
        exact ⟨ret_int (by unfold idxAt; rw [firstIdx_some hs hlt HD.out]; rfl), rfl⟩
      | false =>
        have HD := Lib.hid (show (fun j => l.getD j 0 == x) k = false by show (l.getD k 0 == x) = false; rw [HY.out]; rw [beq_eq_false_iff_ne] at hd ⊢; exact fun e => hd e.symm)
        go_wp2
        exact ⟨⟨k + 1, hlt, by go_num, hs.succ HD.out⟩, by simp [intOf]; omega⟩
    · obtain rfl : k = l.length := by omega
      go_wp2
      go_ret
      exact ⟨ret_int (by unfold idxAt; rw [firstIdx_none hs]; rfl), rfl⟩

theorem idx_mem (l : List Int) (x : Int) : (firstIdx (fun j => l.getD j 0 == x) l.length).isSome = decide (x ∈ l) := by
  rw [Bool.eq_iff_iff, decide_eq_true_eq, mem_getD]
  cases h : firstIdx (fun j => l.getD j 0 == x) l.length with
  | none =>
    have := firstIdx_none_spec h
    simp only [Option.isSome_none, Bool.false_eq_true, false_iff]
    rintro ⟨j, h1, h2⟩
    have h3 := this j h1
    simp only [h2] at h3
    simp at h3
  | some k =>
    have := firstIdx_spec h
    simp only [Option.isSome_some, true_iff]
    exact ⟨k, this.1, by simpa using this.2.1⟩

set_option maxHeartbeats 800000 in
theorem slices_contains (l : List Int) (v : Value) (x : Int) (w : World) (hl : IntsAt w v l) :
    Calls Try.prog 58 #[v, .int .i64 x] w fun e w' => e = .returned (.bool (decide (x ∈ l))) ∧ w = w' := by
  obtain ⟨q, hq⟩ : ∃ q, idxAt l x = q := ⟨_, rfl⟩
  have HQ := Lib.hid hq
  clear hq
  go_enter Try.func58, Try.ntmps58
  go_wp2_with fail
  refine (slices_index l v x w hl).mono ?_
  rintro e w1 ⟨rfl, rfl⟩
  rw [HQ.out]
  go_wp2
  go_ret
  exact ⟨ret_bool (by rw [← idx_mem, ← idxI_nonneg]; show _ = decide (0 ≤ idxAt l x); rw [HQ.out]), rfl⟩

set_option maxHeartbeats 1600000 in
theorem mutex_Ordered (t ws : List Int) (u v : Value) (w : World) (ht : IntsAt w u t) (hw : IntsAt w v ws) :
    Calls Try.prog 37 #[u, v] w fun e w' => e = .returned (.bool (orderedB t ws)) ∧ Below w.heap.size w w' := by
  have HT := Lib.hid ht
  have HW := Lib.hid hw
  obtain ⟨a, ca, rfl, hl1, hl2, hl3, hl4⟩ := ht
  obtain ⟨a', ca', rfl, hl1', hl2', hl3', hl4'⟩ := hw
  clear hl3 hl4 hl3' hl4'
  unfold maxLen at hl2 hl2'
  cases hr : rightO t with
  | false =>
    have HE := Lib.hid (orderedB_no1 (ws := ws) hr)
    go_enter Try.func37, Try.ntmps37
    go_wp2_with fail
    refine (mutex_right t _ _ HT.out).mono ?_
    rintro e w1 ⟨rfl, hb1⟩
    rw [hr]
    clear hr
    go_wp2
    go_ret
    exact ⟨ret_bool HE.out.symm, hb1⟩
  | true =>
    by_cases hlen : ws.length ≤ 8
    · have HR := Lib.hid hr
      go_enter Try.func37, Try.ntmps37
      go_wp2_with fail
      refine (mutex_right t _ _ HT.out).mono ?_
      rintro e w1 ⟨rfl, hb1⟩
      rw [hr]
      clear hr
      have HT1 := Lib.hid (HT.out.below hb1)
      have HW1 := Lib.hid (HW.out.below hb1)
      go_wp2
      go_loopg [17] ws.length (fun g i wr => ∃ k : Nat, k + g = ws.length ∧ i = .int .i64 k ∧ Hid (NoneYet (badAt t ws) k) ∧ wr = w1)
      case atStart => exact ⟨0, by omega, rfl, NoneYet.zero _, rfl⟩
      case round =>
        obtain ⟨k, hkg, rfl, HN, rfl⟩ := hrel
        by_cases hlt : k < ws.length
        · obtain ⟨b1, o1, rfl, hb2, c1⟩ := HW1.out.get hlt
          obtain ⟨id, hid⟩ : ∃ id, ws.getD k 0 = id := ⟨_, rfl⟩
          rw [hid] at c1
          have HB := Lib.hid (show badAt t ws k = (heldB t id && decide (((k + 1 : Nat) : Int) ∈ t.drop id.toNat)) by unfold badAt; rw [hid])
          clear hid
          cases hh : heldB t id with
          | false =>
            have HB2 := Lib.hid (show badAt t ws k = false by rw [HB.out, hh]; rfl)
            go_wp2_with fail
            refine (mutex_held t _ _ _ HT1.out).mono ?_
            rintro e w2 ⟨rfl, rfl⟩
            rw [hh]
            go_wp2
            go_roundg (ws.length - (k + 1))
            case measure => omega
            case rel => exact ⟨k + 1, by omega, by go_num, HN.out.succ HB2.out, rfl⟩
          | true =>
            obtain ⟨q, rfl, hq⟩ := heldB_ids' hh
            obtain ⟨b3, o3, rfl, hb3, _⟩ := HT1.out.get hq
            have hD := HT1.out.rest_at (k := q) (by omega)
            rw [if_neg (by omega)] at hD
            have HD := Lib.hid hD
            clear hD
            have hqc : q ≤ ca := by omega
            have HB1 := Lib.hid (show badAt t ws k = decide (((k : Int) + 1) ∈ t.drop q) by rw [HB.out, hh, Int.toNat_natCast]; simp)
            clear HB
            cases hm : decide (((k : Int) + 1) ∈ t.drop q) with
            | true =>
              have HE := Lib.hid (orderedB_no3 HN.out hlt (by rw [HB1.out]; exact hm))
              go_wp2_with fail
              refine (mutex_held t _ _ _ HT1.out).mono ?_
              rintro e w2 ⟨rfl, rfl⟩
              rw [hh]
              go_wp2_with fail
              refine (slices_contains (t.drop q) _ _ _ HD.out).mono ?_
              rintro e w3 ⟨rfl, rfl⟩
              rw [hm]
              clear hm
              go_wp2
              go_ret
              exact ⟨ret_bool HE.out.symm, hb1⟩
            | false =>
              have HB2 := Lib.hid (show badAt t ws k = false by rw [HB1.out]; exact hm)
              go_wp2_with fail
              refine (mutex_held t _ _ _ HT1.out).mono ?_
              rintro e w2 ⟨rfl, rfl⟩
              rw [hh]
              go_wp2_with fail
              refine (slices_contains (t.drop q) _ _ _ HD.out).mono ?_
              rintro e w3 ⟨rfl, rfl⟩
              rw [hm]
              clear hm
              go_wp2
              go_roundg (ws.length - (k + 1))
              case measure => omega
              case rel => exact ⟨k + 1, by omega, by go_num, HN.out.succ HB2.out, rfl⟩
        · obtain rfl : k = ws.length := by omega
          have HE := Lib.hid (orderedB_yes HR.out hlen HN.out)
          go_wp2
          go_ret
          exact ⟨ret_bool HE.out.symm, hb1⟩
    · have HE := Lib.hid (orderedB_no2 (t := t) hlen)
      go_enter Try.func37, Try.ntmps37
      go_wp2_with fail
      refine (mutex_right t _ _ HT.out).mono ?_
      rintro e w1 ⟨rfl, hb1⟩
      rw [hr]
      clear hr
      go_wp2
      go_ret
      exact ⟨ret_bool HE.out.symm, hb1⟩

end Go.Proofs.Ytacmigimkdiagaa
