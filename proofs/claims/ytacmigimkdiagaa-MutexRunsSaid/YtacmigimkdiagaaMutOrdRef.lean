/- Walk of the reference of package mutex: whether waits are ordered. -/
import Derived.Test.YtacmigimkdiagaaMutOrd
namespace Go.Proofs.Ytacmigimkdiagaa
open Go.RowKit
set_option linter.unusedVariables false
set_option linter.unusedSimpArgs false

/-- Nobody holds what it waits for or above, up to here. -/
def NotFrom (t : List Int) (q k : Nat) (x : Int) : Prop := ∀ j, q ≤ j → j < k → t.getD j 0 ≠ x
theorem NotFrom.none {t : List Int} {q : Nat} {x : Int} (h : NotFrom t q t.length x) : decide (x ∈ t.drop q) = false := by
  rw [decide_eq_false_iff_not, mem_dropD]
  rintro ⟨j, h1, h2, h3⟩
  exact h j h1 h2 h3
theorem in_drop {t : List Int} {q k : Nat} {x : Int} (h1 : q ≤ k) (h2 : k < t.length) (h3 : t.getD k 0 = x) : decide (x ∈ t.drop q) = true := by
  rw [decide_eq_true_eq, mem_dropD]
  exact ⟨k, h1, h2, h3⟩

set_option maxHeartbeats 1600000 in
theorem ref17_Ordered (t ws : List Int) (u v : Value) (w : World) (ht : IntsAt w u t) (hw : IntsAt w v ws) :
    Calls Try.prog 38 #[u, v] w fun e w' => e = .returned (.bool (orderedB t ws)) ∧ w = w' := by
  have HT := Lib.hid ht
  have HW := Lib.hid hw
  obtain ⟨a, ca, rfl, hl1, hl2, hl3, hl4⟩ := ht
  obtain ⟨a', ca', rfl, hl1', hl2', hl3', hl4'⟩ := hw
  clear hl3 hl4 hl3' hl4'
  unfold maxLen at hl2 hl2'
  cases hr : rightO t with
  | false =>
    have HE := Lib.hid (orderedB_no1 (ws := ws) hr)
    go_enter Try.func38, Try.ntmps38
    go_wp2_with fail
    refine (ref17_right t _ _ HT.out).mono ?_
    rintro e w1 ⟨rfl, rfl⟩
    rw [hr]
    clear hr
    go_wp2
    go_ret
    exact ⟨ret_bool HE.out.symm, rfl⟩
  | true =>
    by_cases hlen : ws.length ≤ 8
    · have HR := Lib.hid hr
      go_enter Try.func38, Try.ntmps38
      go_wp2_with fail
      refine (ref17_right t _ _ HT.out).mono ?_
      rintro e w1 ⟨rfl, rfl⟩
      rw [hr]
      clear hr
      go_wp2
      go_loopg [5] ws.length (fun g i wr => ∃ k : Nat, k + g = ws.length ∧ i = .int .i64 k ∧ Hid (NoneYet (badAt t ws) k) ∧ wr = w)
      case atStart => exact ⟨0, by omega, rfl, NoneYet.zero _, rfl⟩
      case round =>
        obtain ⟨k, hkg, rfl, HN, rfl⟩ := hrel
        by_cases hlt : k < ws.length
        · obtain ⟨b1, o1, rfl, hb2, c1⟩ := HW.out.get hlt
          obtain ⟨id, hid⟩ : ∃ id, ws.getD k 0 = id := ⟨_, rfl⟩
          rw [hid] at c1
          have HB := Lib.hid (show badAt t ws k = (heldB t id && decide (((k + 1 : Nat) : Int) ∈ t.drop id.toNat)) by unfold badAt; rw [hid])
          clear hid
          have hkb : decide ((k : Int) < ws.length) = true := by simp; omega
          by_cases h0 : id < 0
          · have HB2 := Lib.hid (show badAt t ws k = false by rw [HB.out]; unfold heldB; rw [decide_eq_false (show ¬ 0 ≤ id by omega)]; rfl)
            go_wp2
            go_roundg (ws.length - (k + 1))
            case measure => omega
            case rel => exact ⟨k + 1, by omega, by go_num, HN.out.succ HB2.out, rfl⟩
          · by_cases h1 : id < t.length
            · obtain ⟨q, rfl⟩ : ∃ q : Nat, id = q := ⟨id.toNat, by omega⟩
              have hq : q < t.length := by omega
              obtain ⟨b3, o3, rfl, hb3, _⟩ := HT.out.get hq
              have HB1 := Lib.hid (show badAt t ws k = decide (((k : Int) + 1) ∈ t.drop q) by rw [HB.out, Int.toNat_natCast]; unfold heldB; rw [decide_eq_true (show (0 : Int) ≤ q by omega), decide_eq_true (show (q : Int) < t.length by omega)]; simp)
              clear HB
              have hz0 : decide ((q : Int) < 0) = false := by simp
              have hz1 : decide ((t.length : Int) ≤ q) = false := by simp; omega
              go_wp2
              go_loopg [6] (t.length - q) (fun g i wr' => ∃ m : Nat, m + g = t.length ∧ q ≤ m ∧ i = .int .i64 m ∧ Hid (NotFrom t q m ((k : Int) + 1)) ∧ wr' = wr)
              case atStart => exact ⟨q, by omega, Nat.le_refl _, rfl, fun j h1 h2 => by omega, rfl⟩
              case round =>
                obtain ⟨m, hmg, hqm, rfl, HF, rfl⟩ := hrel
                by_cases hm : m < t.length
                · obtain ⟨b4, o4, h4, hb4, c4⟩ := HT.out.get hm
                  obtain ⟨rfl, rfl⟩ : b3 = b4 ∧ o3 = o4 := by
                    simp only [Option.some.injEq, Addr.mk.injEq] at h4
                    exact ⟨h4.1, h4.2.1⟩
                  clear h4
                  obtain ⟨y, hy⟩ : ∃ y, t.getD m 0 = y := ⟨_, rfl⟩
                  rw [hy] at c4
                  have HY := Lib.hid hy
                  clear hy
                  cases hd : (y == (k : Int) + 1) with
                  | true =>
                    have HE := Lib.hid (orderedB_no3 HN.out hlt (by rw [HB1.out]; exact in_drop hqm hm (by rw [HY.out]; simpa using hd)))
                    go_wp2
                    go_ret
                    exact ⟨ret_bool HE.out.symm, rfl⟩
                  | false =>
                    have HF2 : Hid (NotFrom t q (m + 1) ((k : Int) + 1)) := fun j h1 h2 => by
                      rcases Nat.lt_succ_iff_lt_or_eq.1 h2 with h3 | rfl
                      · exact HF.out j h1 h3
                      · rw [HY.out]
                        simpa using hd
                    go_wp2
                    go_roundg (t.length - (m + 1))
                    case measure => omega
                    case rel => exact ⟨m + 1, by omega, by omega, by go_num, HF2, rfl⟩
                · obtain rfl : m = t.length := by omega
                  have HB2 := Lib.hid (show badAt t ws k = false by rw [HB1.out]; exact HF.out.none)
                  go_wp2
                  go_roundg (ws.length - (k + 1))
                  case measure => omega
                  case rel => exact ⟨k + 1, by omega, by go_num, HN.out.succ HB2.out, rfl⟩
            · have HB2 := Lib.hid (show badAt t ws k = false by rw [HB.out]; unfold heldB; rw [decide_eq_false h1, Bool.and_false]; rfl)
              go_wp2
              go_roundg (ws.length - (k + 1))
              case measure => omega
              case rel => exact ⟨k + 1, by omega, by go_num, HN.out.succ HB2.out, rfl⟩
        · obtain rfl : k = ws.length := by omega
          have HE := Lib.hid (orderedB_yes HR.out hlen HN.out)
          go_wp2
          go_ret
          exact ⟨ret_bool HE.out.symm, rfl⟩
    · have HE := Lib.hid (orderedB_no2 (t := t) hlen)
      go_enter Try.func38, Try.ntmps38
      go_wp2_with fail
      refine (ref17_right t _ _ HT.out).mono ?_
      rintro e w1 ⟨rfl, rfl⟩
      rw [hr]
      clear hr
      go_wp2
      go_ret
      exact ⟨ret_bool HE.out.symm, rfl⟩

end Go.Proofs.Ytacmigimkdiagaa
