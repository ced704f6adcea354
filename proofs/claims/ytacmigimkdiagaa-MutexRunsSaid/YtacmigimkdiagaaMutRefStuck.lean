/- Walk of the reference of package mutex: who is stuck. -/
import Derived.Test.YtacmigimkdiagaaMutStuck
namespace Go.Proofs.Ytacmigimkdiagaa
open Go.RowKit
set_option linter.unusedVariables false
set_option linter.unusedSimpArgs false

/-- Flags that tell what is in a list. -/
def OnSet (F : List Bool) (o : List Int) : Prop := ∀ i : Nat, 1 ≤ i → i ≤ 8 → decide ((i : Int) ∈ o) = F.getD i false
theorem getD_set9 {F : List Bool} (hF : F.length = 9) {k : Nat} (hk : k < 9) (i : Nat) : (F.set k true).getD i false = if i = k then true else F.getD i false := by
  rw [List.getD_eq_getElem?_getD, List.getElem?_set]
  by_cases h : k = i
  · subst h
    rw [if_pos rfl, if_pos rfl, if_pos (by omega)]
    rfl
  · rw [if_neg h, if_neg (fun e => h e.symm), ← List.getD_eq_getElem?_getD]
theorem OnSet.add {F : List Bool} {o : List Int} (h : OnSet F o) (hF : F.length = 9) {k : Nat} (hk : k < 9) : OnSet (F.set k true) (o ++ [(k : Int)]) := by
  intro i h1 h8
  rw [getD_set9 hF hk, ]
  by_cases hik : i = k
  · subst hik
    simp
  · rw [if_neg hik, ← h i h1 h8]
    have : ¬ (i : Int) = (k : Int) := by omega
    simp [this]
theorem Below9.add {t ws : List Int} {F : List Bool} (h : Below9 t ws F) {k : Nat} (h1 : 1 ≤ k) (hk : k < 9) (hf : freeB t ws F k = true) : Below9 t ws (F.set k true) := by
  refine ⟨by rw [List.length_set]; exact h.1, ?_, fun C hC i hi => ?_⟩
  · rw [getD_set9 h.1 hk, if_neg (by omega)]
    exact h.2.1
  · rw [getD_set9 h.1 hk] at hi
    by_cases hik : i = k
    · subst hik
      exact hC i h1 (by omega) (freeB_mono (h.2.2 C hC) hf)
    · rw [if_neg hik] at hi
      exact h.2.2 C hC i hi
theorem offN_add {F : List Bool} (hF : F.length = 9) {k : Nat} (hk : k < 9) (hf : F.getD k false = false) : offN (F.set k true) < offN F := by
  refine offN_lt hF (by rw [List.length_set]; exact hF) (fun i hi => ?_) (fun e => ?_)
  · rw [getD_set9 hF hk, hi]
    split <;> rfl
  · have := getD_set9 hF hk k
    rw [e, hf, if_pos rfl] at this
    cases this

/-- At the head of a great round. -/
def RefAt (w : World) (t ws : List Int) (n : Nat) (v : Value) (wr : World) : Prop :=
  ∃ o F, OwnInts wr w.heap.size v o ∧ OnSet F o ∧ Below9 t ws F ∧ o.length + offN F ≤ 9 ∧ (Closed t ws F ∨ n ≤ o.length) ∧ Below w.heap.size w wr
/-- At the head of a small round. -/
def InAt (w : World) (t ws : List Int) (m : Nat) (F0 : List Bool) (k : Nat) (v : Value) (wr : World) : Prop :=
  ∃ o F, OwnInts wr w.heap.size v o ∧ OnSet F o ∧ Below9 t ws F ∧ o.length + offN F ≤ 9 ∧
    ((F = F0 ∧ o.length = m ∧ ∀ i, 1 ≤ i → i < k → freeB t ws F i = true → F.getD i false = true) ∨ (¬ Closed t ws F0 ∧ m < o.length)) ∧ Below w.heap.size w wr
theorem RefAt.start (w : World) (t ws : List Int) : RefAt w t ws 0 (.slice none 0 0) w := by
  refine ⟨[], List.replicate 9 false, OwnInts.nil _ _, fun i h1 h8 => ?_, below9_none t ws, ?_, .inr (Nat.zero_le _), Below.refl _ _⟩
  · rw [List.getD_eq_getElem?_getD, List.getElem?_replicate]
    split <;> simp
  · have := offN_le (List.replicate 9 false)
    simpa using this
theorem RefAt.enter {w : World} {t ws : List Int} {n : Nat} {v : Value} {wr : World} (h : RefAt w t ws n v wr) : ∃ m F0, InAt w t ws m F0 1 v wr ∧ (Closed t ws F0 ∨ n ≤ m) := by
  obtain ⟨o, F, h1, h2, h3, h4, h5, h6⟩ := h
  exact ⟨o.length, F, ⟨o, F, h1, h2, h3, h4, .inl ⟨rfl, rfl, fun i hi hj => by omega⟩, h6⟩, h5⟩
theorem InAt.done {w : World} {t ws : List Int} {m n : Nat} {F0 : List Bool} {v : Value} {wr : World} (h : InAt w t ws m F0 9 v wr) (hc : Closed t ws F0 ∨ n ≤ m) : RefAt w t ws (n + 1) v wr := by
  obtain ⟨o, F, h1, h2, h3, h4, h5, h6⟩ := h
  refine ⟨o, F, h1, h2, h3, h4, ?_, h6⟩
  rcases h5 with ⟨h7, h8, h9⟩ | ⟨h7, h8⟩
  · exact .inl fun i hi1 hi8 hf => h9 i hi1 (by omega) hf
  · rcases hc with hc | hc
    · exact absurd hc h7
    · exact .inr (by omega)
theorem RefAt.ten {w : World} {t ws : List Int} {n : Nat} {v : Value} {wr : World} (h : RefAt w t ws n v wr) (hn : n = 10) : RefAt w t ws 10 v wr := hn ▸ h
theorem RefAt.least {w : World} {t ws : List Int} {v : Value} {wr : World} (h : RefAt w t ws 10 v wr) : ∃ o F, IntsAt wr v o ∧ OnSet F o ∧ Least t ws F ∧ Below w.heap.size w wr := by
  obtain ⟨o, F, h1, h2, h3, h4, h5, h6⟩ := h
  refine ⟨o, F, h1.ints, h2, ⟨h3, ?_⟩, h6⟩
  rcases h5 with h5 | h5
  · exact h5
  · omega
/-- One arm on: it is free or it is not. -/
theorem InAt.stay {w : World} {t ws : List Int} {m k : Nat} {F0 F : List Bool} {o : List Int} {v : Value} {wr : World} (h1 : OwnInts wr w.heap.size v o) (h2 : OnSet F o) (h3 : Below9 t ws F) (h4 : o.length + offN F ≤ 9)
    (h5 : (F = F0 ∧ o.length = m ∧ ∀ i, 1 ≤ i → i < k → freeB t ws F i = true → F.getD i false = true) ∨ (¬ Closed t ws F0 ∧ m < o.length)) (h6 : Below w.heap.size w wr)
    (hf : freeB t ws F k = true → F.getD k false = true) : InAt w t ws m F0 (k + 1) v wr := by
  refine ⟨o, F, h1, h2, h3, h4, ?_, h6⟩
  rcases h5 with ⟨h7, h8, h9⟩ | h5
  · refine .inl ⟨h7, h8, fun i hi1 hik hf' => ?_⟩
    rcases Nat.lt_succ_iff_lt_or_eq.1 hik with hlt | rfl
    · exact h9 i hi1 hlt hf'
    · exact hf hf'
  · exact .inr h5
theorem InAt.more {w : World} {t ws : List Int} {m k : Nat} {F0 F : List Bool} {o : List Int} {v : Value} {wr : World} (h1 : OwnInts wr w.heap.size v (o ++ [(k : Int)])) (h2 : OnSet F o) (h3 : Below9 t ws F) (h4 : o.length + offN F ≤ 9)
    (h5 : (F = F0 ∧ o.length = m ∧ ∀ i, 1 ≤ i → i < k → freeB t ws F i = true → F.getD i false = true) ∨ (¬ Closed t ws F0 ∧ m < o.length)) (h6 : Below w.heap.size w wr)
    (hk1 : 1 ≤ k) (hk9 : k < 9) (hf : freeB t ws F k = true) (hn : F.getD k false = false) : InAt w t ws m F0 (k + 1) v wr := by
  have hlt := offN_add h3.1 hk9 hn
  refine ⟨_, F.set k true, h1, h2.add h3.1 hk9, h3.add hk1 hk9 hf, by simp; omega, ?_, h6⟩
  rcases h5 with ⟨h7, h8, h9⟩ | ⟨h7, h8⟩
  · refine .inr ⟨fun hc => ?_, by simp; omega⟩
    rw [← h7] at hc
    have := hc k hk1 (by omega) hf
    rw [hn] at this
    cases this
  · exact .inr ⟨h7, by simp; omega⟩

set_option maxHeartbeats 6400000 in
theorem ref17_Stuck (t ws : List Int) (u v : Value) (w : World) (ht : IntsAt w u t) (hw : IntsAt w v ws) :
    Calls Try.prog 36 #[u, v] w fun e w' => GivesStuck t ws w e w' := by
  have HT := Lib.hid ht
  have HW := Lib.hid hw
  obtain ⟨a, ca, rfl, hl1, hl2, hl3, hl4⟩ := ht
  obtain ⟨a', ca', rfl, hl1', hl2', hl3', hl4'⟩ := hw
  clear hl3 hl4 hl3' hl4'
  unfold maxLen at hl2 hl2'
  cases hr : rightO t with
  | false =>
    have HR := Lib.hid hr
    go_enter Try.func36, Try.ntmps36
    go_wp2_with fail
    refine (ref17_right t _ _ HT.out).mono ?_
    rintro e w1 ⟨rfl, rfl⟩
    rw [hr]
    clear hr
    go_wp2
    go_ret
    unfold GivesStuck
    rw [if_neg (fun h => by have := h.1; rw [HR.out] at this; cases this)]
    exact ⟨⟨_, rfl, IntsAt.nil _⟩, Below.refl _ _⟩
  | true =>
    by_cases hlen : ws.length ≤ 8
    · have HR := Lib.hid hr
      go_enter Try.func36, Try.ntmps36
      go_wp2_with fail
      refine (ref17_right t _ _ HT.out).mono ?_
      rintro e w1 ⟨rfl, rfl⟩
      rw [hr]
      clear hr
      go_wp2
      go_loopg [6, 7] 10 (fun g o i wr => ∃ n : Nat, n + g = 10 ∧ i = .int .i64 n ∧ Hid (RefAt w t ws n o wr))
      case atStart => exact ⟨0, by omega, rfl, RefAt.start w t ws⟩
      case round =>
        obtain ⟨n, hng, rfl, HO⟩ := hrel
        obtain ⟨wo, hwo⟩ : ∃ wo, wr = wo := ⟨_, rfl⟩
        rw [hwo] at HO ⊢
        clear hwo wr
        by_cases hn : n < 10
        · obtain ⟨m, F0, hin, hc⟩ := HO.out.enter
          have HIN := Lib.hid hin
          have HC := Lib.hid hc
          clear hin hc HO
          have hn10 : decide ((n : Int) < 10) = true := by simp; omega
          go_wp2
          go_loopg [6, 8] 8 (fun g o i wr => ∃ k : Nat, 1 ≤ k ∧ k + g = 9 ∧ i = .int .i64 k ∧ Hid (InAt w t ws m F0 k o wr))
          case atStart => exact ⟨1, by omega, by omega, rfl, HIN.out⟩
          case round =>
            obtain ⟨k, hk1, hkg, rfl, HI⟩ := hrel
            clear HIN
            by_cases hk9 : k < 9
            · obtain ⟨o, F, ho, hs, hb9, hle, hor, hbel⟩ := HI.out
              have HO := Lib.hid ho
              have HS := Lib.hid hs
              have HB := Lib.hid hb9
              have HLE := Lib.hid hle
              have HOR := Lib.hid hor
              have hbs := hbel.size
              clear ho hs hb9 hle hor HI
              have HIK := Lib.hid (HS.out k hk1 (by omega))
              by_cases hlen2 : ws.length < k
              · have HF := Lib.hid (show freeB t ws F k = true by unfold freeB; rw [decide_eq_true hlen2]; rfl)
                cases hik : F.getD k false with
                | true =>
                  have HKF := Lib.hid hik
                  rw [hik] at HIK
                  clear hik
                  go_wp2_with fail
                  refine (ref04_in o _ _ _ HO.out.ints).mono ?_
                  rintro e w2 ⟨rfl, rfl⟩
                  rw [HIK.out]
                  have HE := Lib.hid (InAt.stay (F0 := F0) (m := m) HO.out HS.out HB.out HLE.out HOR.out hbel (k := k) fun _ => HKF.out)
                  go_wp2
                  go_roundg (9 - (k + 1))
                  case measure => omega
                  case rel => exact ⟨k + 1, by omega, by omega, by go_num, HE⟩
                | false =>
                  have HKF := Lib.hid hik
                  rw [hik] at HIK
                  clear hik
                  go_wp2_with fail
                  refine (ref04_in o _ _ _ HO.out.ints).mono ?_
                  rintro e w2 ⟨rfl, rfl⟩
                  rw [HIK.out]
                  go_wp2_with (at_builtin; refine wpList_append_ints rfl (.tmp 70) (.tmp 72) rfl w.heap.size _ _ rfl (HO.out.alloc _) _ [(k : Int)] rfl (IntsAt.lit1 _ _) ?_ ?_ ?_)
                  · have := HLE.out
                    simp
                    omega
                  · simp
                    omega
                  · intro v1 w3 hown1 hg1 hb1
                    have HE := Lib.hid (InAt.more (F0 := F0) (m := m) hown1 HS.out HB.out HLE.out HOR.out ((hbel.alloc hbs _).trans hb1) hk1 hk9 HF.out HKF.out)
                    clear hown1 hg1 hb1
                    go_wp2
                    go_roundg (9 - (k + 1))
                    case measure => omega
                    case rel => exact ⟨k + 1, by omega, by omega, by go_num, HE⟩
              · have hkm : k - 1 < ws.length := by omega
                obtain ⟨b1, o1, rfl, hb1, c3⟩ := HW.out.get hkm
                rw [← hbel.cell (p := ⟨b1, _, none⟩) hb1] at c3
                obtain ⟨id, hid⟩ : ∃ id, ws.getD (k - 1) 0 = id := ⟨_, rfl⟩
                rw [hid] at c3
                have HID := Lib.hid hid
                clear hid
                have HF0 := Lib.hid (show freeB t ws F k = (!heldB t id || t.getD id.toNat 0 == 0 || F.getD (t.getD id.toNat 0).toNat false) by unfold freeB; rw [decide_eq_false hlen2, HID.out]; rfl)
                by_cases hid0 : id < 0
                · have HF := Lib.hid (show freeB t ws F k = true by rw [HF0.out]; unfold heldB; rw [decide_eq_false (show ¬ 0 ≤ id by omega)]; rfl)
                  cases hik : F.getD k false with
                  | true =>
                    have HKF := Lib.hid hik
                    rw [hik] at HIK
                    clear hik
                    go_wp2_with fail
                    refine (ref04_in o _ _ _ HO.out.ints).mono ?_
                    rintro e w2 ⟨rfl, rfl⟩
                    rw [HIK.out]
                    have HE := Lib.hid (InAt.stay (F0 := F0) (m := m) HO.out HS.out HB.out HLE.out HOR.out hbel (k := k) fun _ => HKF.out)
                    go_wp2
                    go_roundg (9 - (k + 1))
                    case measure => omega
                    case rel => exact ⟨k + 1, by omega, by omega, by go_num, HE⟩
                  | false =>
                    have HKF := Lib.hid hik
                    rw [hik] at HIK
                    clear hik
                    go_wp2_with fail
                    refine (ref04_in o _ _ _ HO.out.ints).mono ?_
                    rintro e w2 ⟨rfl, rfl⟩
                    rw [HIK.out]
                    go_wp2_with (at_builtin; refine wpList_append_ints rfl (.tmp 70) (.tmp 72) rfl w.heap.size _ _ rfl (HO.out.alloc _) _ [(k : Int)] rfl (IntsAt.lit1 _ _) ?_ ?_ ?_)
                    · have := HLE.out
                      simp
                      omega
                    · simp
                      omega
                    · intro v1 w3 hown1 hg1 hb1
                      have HE := Lib.hid (InAt.more (F0 := F0) (m := m) hown1 HS.out HB.out HLE.out HOR.out ((hbel.alloc hbs _).trans hb1) hk1 hk9 HF.out HKF.out)
                      clear hown1 hg1 hb1
                      go_wp2
                      go_roundg (9 - (k + 1))
                      case measure => omega
                      case rel => exact ⟨k + 1, by omega, by omega, by go_num, HE⟩
                · by_cases hidl : id < t.length
                  · obtain ⟨q, rfl⟩ : ∃ q : Nat, id = q := ⟨id.toNat, by omega⟩
                    have hql : q < t.length := by omega
                    obtain ⟨b2, o2, rfl, hb2, c4⟩ := HT.out.get hql
                    rw [← hbel.cell (p := ⟨b2, _, none⟩) hb2] at c4
                    obtain ⟨x, hx, hx8⟩ := right_in HR.out hql
                    rw [hx] at c4
                    have HX := Lib.hid hx
                    clear hx
                    have HF1 := Lib.hid (show freeB t ws F k = ((x : Int) == 0 || F.getD x false) by rw [HF0.out]; unfold heldB; rw [decide_eq_true (show (0 : Int) ≤ q by omega), decide_eq_true (show (q : Int) < t.length by omega), Int.toNat_natCast, HX.out, Int.toNat_natCast]; rfl)
                    cases hx0 : ((x : Int) == 0) with
                    | true =>
                      have HF := Lib.hid (show freeB t ws F k = true by rw [HF1.out, hx0]; rfl)
                      cases hik : F.getD k false with
                      | true =>
                        have HKF := Lib.hid hik
                        rw [hik] at HIK
                        clear hik
                        go_wp2_with fail
                        refine (ref04_in o _ _ _ HO.out.ints).mono ?_
                        rintro e w2 ⟨rfl, rfl⟩
                        rw [HIK.out]
                        have HE := Lib.hid (InAt.stay (F0 := F0) (m := m) HO.out HS.out HB.out HLE.out HOR.out hbel (k := k) fun _ => HKF.out)
                        go_wp2
                        go_roundg (9 - (k + 1))
                        case measure => omega
                        case rel => exact ⟨k + 1, by omega, by omega, by go_num, HE⟩
                      | false =>
                        have HKF := Lib.hid hik
                        rw [hik] at HIK
                        clear hik
                        go_wp2_with fail
                        refine (ref04_in o _ _ _ HO.out.ints).mono ?_
                        rintro e w2 ⟨rfl, rfl⟩
                        rw [HIK.out]
                        go_wp2_with (at_builtin; refine wpList_append_ints rfl (.tmp 70) (.tmp 72) rfl w.heap.size _ _ rfl (HO.out.alloc _) _ [(k : Int)] rfl (IntsAt.lit1 _ _) ?_ ?_ ?_)
                        · have := HLE.out
                          simp
                          omega
                        · simp
                          omega
                        · intro v1 w3 hown1 hg1 hb1
                          have HE := Lib.hid (InAt.more (F0 := F0) (m := m) hown1 HS.out HB.out HLE.out HOR.out ((hbel.alloc hbs _).trans hb1) hk1 hk9 HF.out HKF.out)
                          clear hown1 hg1 hb1
                          go_wp2
                          go_roundg (9 - (k + 1))
                          case measure => omega
                          case rel => exact ⟨k + 1, by omega, by omega, by go_num, HE⟩
                    | false =>
                      have HF2 := Lib.hid (show freeB t ws F k = F.getD x false by rw [HF1.out, hx0]; rfl)
                      have HIX := Lib.hid (HS.out x (by have : ¬ (x : Int) = 0 := by simpa using hx0
                                                        omega) hx8)
                      cases hxf : F.getD x false with
                      | true =>
                        have HF := Lib.hid (show freeB t ws F k = true by rw [HF2.out]; exact hxf)
                        rw [hxf] at HIX
                        clear hxf
                        cases hik : F.getD k false with
                        | true =>
                          have HKF := Lib.hid hik
                          rw [hik] at HIK
                          clear hik
                          go_wp2_with fail
                          refine (ref04_in o _ _ _ HO.out.ints).mono ?_
                          rintro e w2 ⟨rfl, rfl⟩
                          rw [HIX.out]
                          go_wp2_with fail
                          refine (ref04_in o _ _ _ HO.out.ints).mono ?_
                          rintro e w2 ⟨rfl, rfl⟩
                          rw [HIK.out]
                          have HE := Lib.hid (InAt.stay (F0 := F0) (m := m) HO.out HS.out HB.out HLE.out HOR.out hbel (k := k) fun _ => HKF.out)
                          go_wp2
                          go_roundg (9 - (k + 1))
                          case measure => omega
                          case rel => exact ⟨k + 1, by omega, by omega, by go_num, HE⟩
                        | false =>
                          have HKF := Lib.hid hik
                          rw [hik] at HIK
                          clear hik
                          go_wp2_with fail
                          refine (ref04_in o _ _ _ HO.out.ints).mono ?_
                          rintro e w2 ⟨rfl, rfl⟩
                          rw [HIX.out]
                          go_wp2_with fail
                          refine (ref04_in o _ _ _ HO.out.ints).mono ?_
                          rintro e w2 ⟨rfl, rfl⟩
                          rw [HIK.out]
                          go_wp2_with (at_builtin; refine wpList_append_ints rfl (.tmp 70) (.tmp 72) rfl w.heap.size _ _ rfl (HO.out.alloc _) _ [(k : Int)] rfl (IntsAt.lit1 _ _) ?_ ?_ ?_)
                          · have := HLE.out
                            simp
                            omega
                          · simp
                            omega
                          · intro v1 w3 hown1 hg1 hb1
                            have HE := Lib.hid (InAt.more (F0 := F0) (m := m) hown1 HS.out HB.out HLE.out HOR.out ((hbel.alloc hbs _).trans hb1) hk1 hk9 HF.out HKF.out)
                            clear hown1 hg1 hb1
                            go_wp2
                            go_roundg (9 - (k + 1))
                            case measure => omega
                            case rel => exact ⟨k + 1, by omega, by omega, by go_num, HE⟩
                      | false =>
                        have HF := Lib.hid (show freeB t ws F k = false by rw [HF2.out]; exact hxf)
                        rw [hxf] at HIX
                        clear hxf
                        go_wp2_with fail
                        refine (ref04_in o _ _ _ HO.out.ints).mono ?_
                        rintro e w2 ⟨rfl, rfl⟩
                        rw [HIX.out]
                        have HE := Lib.hid (InAt.stay (F0 := F0) (m := m) HO.out HS.out HB.out HLE.out HOR.out hbel (k := k) fun h => by rw [HF.out] at h; cases h)
                        go_wp2
                        go_roundg (9 - (k + 1))
                        case measure => omega
                        case rel => exact ⟨k + 1, by omega, by omega, by go_num, HE⟩
                  · have HF := Lib.hid (show freeB t ws F k = true by rw [HF0.out]; unfold heldB; rw [decide_eq_false (show ¬ id < t.length by omega), Bool.and_false]; rfl)
                    cases hik : F.getD k false with
                    | true =>
                      have HKF := Lib.hid hik
                      rw [hik] at HIK
                      clear hik
                      go_wp2_with fail
                      refine (ref04_in o _ _ _ HO.out.ints).mono ?_
                      rintro e w2 ⟨rfl, rfl⟩
                      rw [HIK.out]
                      have HE := Lib.hid (InAt.stay (F0 := F0) (m := m) HO.out HS.out HB.out HLE.out HOR.out hbel (k := k) fun _ => HKF.out)
                      go_wp2
                      go_roundg (9 - (k + 1))
                      case measure => omega
                      case rel => exact ⟨k + 1, by omega, by omega, by go_num, HE⟩
                    | false =>
                      have HKF := Lib.hid hik
                      rw [hik] at HIK
                      clear hik
                      go_wp2_with fail
                      refine (ref04_in o _ _ _ HO.out.ints).mono ?_
                      rintro e w2 ⟨rfl, rfl⟩
                      rw [HIK.out]
                      go_wp2_with (at_builtin; refine wpList_append_ints rfl (.tmp 70) (.tmp 72) rfl w.heap.size _ _ rfl (HO.out.alloc _) _ [(k : Int)] rfl (IntsAt.lit1 _ _) ?_ ?_ ?_)
                      · have := HLE.out
                        simp
                        omega
                      · simp
                        omega
                      · intro v1 w3 hown1 hg1 hb1
                        have HE := Lib.hid (InAt.more (F0 := F0) (m := m) hown1 HS.out HB.out HLE.out HOR.out ((hbel.alloc hbs _).trans hb1) hk1 hk9 HF.out HKF.out)
                        clear hown1 hg1 hb1
                        go_wp2
                        go_roundg (9 - (k + 1))
                        case measure => omega
                        case rel => exact ⟨k + 1, by omega, by omega, by go_num, HE⟩
            · obtain rfl : k = 9 := by omega
              have HE : Hid (RefAt w t ws (n + 1) _ _) := HI.out.done HC.out
              clear HI HC
              go_wp2
              go_roundg (10 - (n + 1))
              case measure => omega
              case rel => exact ⟨n + 1, by omega, by go_num, HE⟩
        · have hn10 : decide ((n : Int) < 10) = false := by simp; omega
          have HO10 := HO.out.ten (by omega)
          obtain ⟨o, F, ho, hs, hl, hbel⟩ := HO10.least
          clear HO10
          have HOO := Lib.hid ho
          have HS := Lib.hid hs
          have HL := Lib.hid hl
          clear ho hs hl HO hn hng
          go_wp2
          go_loopw [5, 11] (fun q i wr => ∃ k : Nat, 1 ≤ k ∧ k ≤ 9 ∧ i = .int .i64 k ∧ Hid (OwnInts wr wo.heap.size q (stuckN F k)) ∧ Below wo.heap.size wo wr) (fun _ i _ => 9 - (intOf i).toNat)
          case atStart => exact ⟨1, by omega, by omega, rfl, OwnInts.nil _ _, Below.refl _ _⟩
          case round =>
            obtain ⟨k, hk1, hk9, rfl, HQ, hbel2⟩ := hrel
            by_cases hlt : k < 9
            · have HN := Lib.hid (stuckN_succ F hk1)
              have HIK := Lib.hid (HS.out k hk1 (by omega))
              cases hb : F.getD k false with
              | true =>
                have HB := Lib.hid hb
                rw [hb] at HIK
                clear hb
                go_wp2_with fail
                refine (ref04_in o _ _ _ (HOO.out.below hbel2)).mono ?_
                rintro e w2 ⟨rfl, rfl⟩
                rw [HIK.out]
                go_wp2
                refine ⟨⟨k + 1, by omega, by omega, by go_num, ?_, hbel2⟩, by simp [intOf]; omega⟩
                rw [HN.out, HB.out, if_pos rfl, List.append_nil]
                exact HQ
              | false =>
                have HB := Lib.hid hb
                rw [hb] at HIK
                clear hb
                have HK := Lib.hid (stuckN_le F k)
                go_wp2_with fail
                refine (ref04_in o _ _ _ (HOO.out.below hbel2)).mono ?_
                rintro e w2 ⟨rfl, rfl⟩
                rw [HIK.out]
                go_wp2_with (at_builtin; refine wpList_append_ints rfl (.tmp 82) (.tmp 84) rfl wo.heap.size _ _ rfl (HQ.out.alloc _) _ [(k : Int)] rfl (IntsAt.lit1 _ _) ?_ ?_ ?_)
                · have := HK.out
                  simp
                  omega
                · have := hbel2.size
                  simp
                  omega
                · intro v1 w3 hown1 hg1 hb1
                  have HV1 := Lib.hid hown1
                  clear hown1 hg1
                  go_wp2
                  refine ⟨⟨k + 1, by omega, by omega, by go_num, ?_, (hbel2.alloc hbel2.size _).trans hb1⟩, by simp [intOf]; omega⟩
                  rw [HN.out, HB.out]
                  exact HV1.out
            · obtain rfl : k = 9 := by omega
              go_wp2
              go_ret
              unfold GivesStuck
              rw [if_pos ⟨HR.out, hlen⟩]
              exact ⟨F, HL.out, ⟨_, rfl, HQ.out.ints⟩, bstep hbel (Nat.le_refl _) hbel2⟩
    · have HR := Lib.hid hr
      go_enter Try.func36, Try.ntmps36
      go_wp2_with fail
      refine (ref17_right t _ _ HT.out).mono ?_
      rintro e w1 ⟨rfl, rfl⟩
      rw [hr]
      clear hr
      go_wp2
      go_ret
      unfold GivesStuck
      rw [if_neg (fun h => hlen h.2)]
      exact ⟨⟨_, rfl, IntsAt.nil _⟩, Below.refl _ _⟩

end Go.Proofs.Ytacmigimkdiagaa
