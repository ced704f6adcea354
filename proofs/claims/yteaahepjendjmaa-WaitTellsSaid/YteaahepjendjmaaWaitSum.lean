/- The walks of wait.Sum, Open and of their references. -/
import Derived.Test.YteaahepjendjmaaWaitTop
namespace Go.Proofs.Yteaahepjendjmaa
open Go.RowKit
set_option linter.unusedVariables false
set_option linter.unusedSimpArgs false

theorem val_i {a b : Int} (h : a = b) : Value.int .i64 a = .int .i64 b := by rw [h]
theorem ret_ii {a b c d : Int} (h : a = b) (h' : c = d) : Ending.returned (.tuple #[.int .i64 a, .int .i64 c]) = .returned (.tuple #[.int .i64 b, .int .i64 d]) := by rw [h, h']

def sumStep (who : Int) (s : Int × Int) (x : Wt) : Int × Int := if x.w = who then (addS s.1 x.a, addS s.2 x.b) else s
def sumL (who : Int) (l : List Wt) : Int × Int := l.foldl (sumStep who) (0, 0)
theorem sumL_snoc {who : Int} {l : List Wt} {k : Nat} {x : Wt} (h : l[k]? = some x) : sumL who (l.take (k + 1)) = sumStep who (sumL who (l.take k)) x := by
  unfold sumL
  rw [List.take_add_one, h, Option.toList_some, List.foldl_append]
  rfl
theorem sumL_bd {who : Int} {l : List Wt} (h : ∀ x ∈ l, WtOk x) : ∀ k, 0 ≤ (sumL who (l.take k)).1 ∧ (sumL who (l.take k)).1 ≤ 4611686018427387904 ∧ 0 ≤ (sumL who (l.take k)).2 ∧ (sumL who (l.take k)).2 ≤ 4611686018427387904
  | 0 => by simp [sumL]
  | k + 1 => by
    have ih := sumL_bd h (who := who) k
    cases hk : l[k]? with
    | none =>
      rw [List.take_add_one, hk]
      simpa using ih
    | some x =>
      rw [sumL_snoc hk]
      have hx := h x (List.mem_of_getElem? hk)
      unfold sumStep WtOk at *
      split
      · have h1 := addS_bd (a := (sumL who (l.take k)).1) (b := x.a) ⟨ih.1, ih.2.1⟩ (by omega)
        have h2 := addS_bd (a := (sumL who (l.take k)).2) (b := x.b) ⟨ih.2.2.1, ih.2.2.2⟩ (by omega)
        exact ⟨h1.1, h1.2, h2.1, h2.2⟩
      · exact ih

set_option maxHeartbeats 1600000 in
theorem wait_sum (l : List Ev) (v : Value) (who : Int) (w : World) (hl : EvsAt w v l) (hlen : l.length ≤ 100000000) (hwf : ∀ e ∈ l, WfE e) :
    Calls Try.prog 26 #[v, .int .i64 who] w fun r w' => r = .returned (.tuple #[.int .i64 (sumL who (waitsL l)).1, .int .i64 (sumL who (waitsL l)).2]) ∧ Below w.heap.size w w' := by
  have HL := Lib.hid hl
  have HW := Lib.hid hwf
  have HOK := Lib.hid (waitsL_ok hwf)
  clear hwf
  obtain ⟨a, ca, rfl, hl1, hl2, hl3, hl4⟩ := hl
  clear hl3 hl4
  unfold maxLen at hl2
  go_enter Try.func26, Try.ntmps26
  go_wp2
  go_step3
  go_wp2
  go_step3
  go_wp2_with fail
  refine (wait_waits l _ _ HL.out hlen HW.out).mono ?_
  rintro r w2 ⟨⟨v2, rfl, h2, hnew⟩, hbel2⟩
  have H2 := Lib.hid h2
  have hle2 := waitsL_le l
  obtain ⟨a2, ca2, rfl, hm1, hm2, hm3, hm4⟩ := h2
  clear hm3 hm4 hnew
  unfold maxLen at hm2
  go_wp2
  go_loopg [4, 5, 11] (waitsL l).length (fun g s t i wr => ∃ k : Nat, k + g = (waitsL l).length ∧ i = .int .i64 k ∧ s = .int .i64 (sumL who ((waitsL l).take k)).1 ∧ t = .int .i64 (sumL who ((waitsL l).take k)).2 ∧ Below w2.heap.size w2 wr)
  case atStart => exact ⟨0, by omega, rfl, rfl, rfl, Below.refl _ _⟩
  case round =>
    obtain ⟨k, hkg, rfl, rfl, rfl, hbel⟩ := hrel
    have hsz := hbel.size
    have hbd := sumL_bd HOK.out (who := who) k
    obtain ⟨z, hz⟩ : ∃ z, sumL who ((waitsL l).take k) = z := ⟨_, rfl⟩
    rw [hz] at hbd ⊢
    have HZ := Lib.hid hz
    clear hz
    obtain ⟨z1, z2⟩ := z
    obtain ⟨p1, p2, p3, p4⟩ := hbd
    simp only at p1 p2 p3 p4 ⊢
    by_cases hlt : k < (waitsL l).length
    · obtain ⟨b1, o1, x, rfl, hb1, hkx, c1, c2, c3, c4⟩ := WaitsAt.get4 H2.out hlt
      rw [← hbel.cell (p := ⟨b1, _, none⟩) hb1] at c1 c2 c3 c4
      have hx := HOK.out x (List.mem_of_getElem? hkx)
      have HS := Lib.hid (sumL_snoc (who := who) hkx)
      obtain ⟨x1, x2, x3, x4⟩ := x
      obtain ⟨y1, y2, y3⟩ := hx
      simp only at y1 y2 y3 c1 c2 c3 c4
      clear hkx
      cases hd : (x1 == who) with
      | true =>
        have hst : sumL who ((waitsL l).take (k + 1)) = (addS z1 x3, addS z2 x4) := by rw [HS.out, HZ.out]; unfold sumStep; rw [if_pos (by simpa using hd)]
        have HST := Lib.hid hst
        clear hst
        have P1 : Hid (0 ≤ z1 ∧ z1 ≤ 4611686018427387904) := ⟨p1, p2⟩
        have P2 : Hid (0 ≤ z2 ∧ z2 ≤ 4611686018427387904) := ⟨p3, p4⟩
        have Q1 : Hid (0 ≤ x3 ∧ x3 ≤ 9223372036854775807) := ⟨by omega, by omega⟩
        have Q2 : Hid (0 ≤ x4 ∧ x4 ≤ 9223372036854775807) := ⟨by omega, by omega⟩
        go_wp2
        go_quiet ((go_at_call 43; refine Calls.quiet_of_same (wait_add _ _ _ ?_ ?_); (first | exact P1.out | exact P2.out); (first | exact Q1.out | exact Q2.out)))
        go_wp2
        go_roundg ((waitsL l).length - (k + 1))
        case measure => omega
        case rel => exact ⟨k + 1, by omega, by go_num, val_i (by rw [HST.out]), val_i (by rw [HST.out]), below_drewN (hbel.alloc hsz _) _⟩
      | false =>
        have hst : sumL who ((waitsL l).take (k + 1)) = (z1, z2) := by rw [HS.out, HZ.out]; unfold sumStep; rw [if_neg (by simpa using hd)]
        have HST := Lib.hid hst
        clear hst
        go_wp2
        go_roundg ((waitsL l).length - (k + 1))
        case measure => omega
        case rel => exact ⟨k + 1, by omega, by go_num, val_i (by rw [HST.out]), val_i (by rw [HST.out]), hbel.alloc hsz _⟩
    · obtain rfl : k = (waitsL l).length := by omega
      rw [List.take_length] at HZ
      go_wp2
      first | rw [Exit.noGoto_ret] | skip
      go_ret2
      exact ⟨ret_ii (by rw [HZ.out]) (by rw [HZ.out]), bstep hbel2 (Nat.le_refl _) hbel⟩

set_option maxHeartbeats 1600000 in
theorem ref34_sum (l : List Ev) (v : Value) (who : Int) (w : World) (hl : EvsAt w v l) (hlen : l.length ≤ 100000000) (hwf : ∀ e ∈ l, WfE e) :
    Calls Try.prog 27 #[v, .int .i64 who] w fun r w' => r = .returned (.tuple #[.int .i64 (sumL who (waitsL l)).1, .int .i64 (sumL who (waitsL l)).2]) ∧ Below w.heap.size w w' := by
  have HL := Lib.hid hl
  have HW := Lib.hid hwf
  have HOK := Lib.hid (waitsL_ok hwf)
  clear hwf
  obtain ⟨a, ca, rfl, hl1, hl2, hl3, hl4⟩ := hl
  clear hl3 hl4
  unfold maxLen at hl2
  go_enter Try.func27, Try.ntmps27
  go_wp2_with fail
  refine (ref34_waits l _ _ HL.out hlen HW.out).mono ?_
  rintro r w2 ⟨⟨v2, rfl, h2, hnew⟩, hbel2⟩
  have H2 := Lib.hid h2
  have hle2 := waitsL_le l
  obtain ⟨a2, ca2, rfl, hm1, hm2, hm3, hm4⟩ := h2
  clear hm3 hm4 hnew
  unfold maxLen at hm2
  go_wp2
  go_loopw [7, 8, 9] (fun s t i wr => ∃ k : Nat, k ≤ (waitsL l).length ∧ i = .int .i64 k ∧ s = .int .i64 (sumL who ((waitsL l).take k)).1 ∧ t = .int .i64 (sumL who ((waitsL l).take k)).2 ∧ Below w2.heap.size w2 wr) (fun _ _ i _ => (waitsL l).length - (intOf i).toNat)
  case atStart => exact ⟨0, by omega, rfl, rfl, rfl, Below.refl _ _⟩
  case round =>
    obtain ⟨k, hk, rfl, rfl, rfl, hbel⟩ := hrel
    have hsz := hbel.size
    have hbd := sumL_bd HOK.out (who := who) k
    obtain ⟨z, hz⟩ : ∃ z, sumL who ((waitsL l).take k) = z := ⟨_, rfl⟩
    rw [hz] at hbd ⊢
    have HZ := Lib.hid hz
    clear hz
    obtain ⟨z1, z2⟩ := z
    obtain ⟨p1, p2, p3, p4⟩ := hbd
    simp only at p1 p2 p3 p4 ⊢
    by_cases hlt : k < (waitsL l).length
    · obtain ⟨b1, o1, x, rfl, hb1, hkx, c1, c2, c3, c4⟩ := WaitsAt.get4 H2.out hlt
      rw [← hbel.cell (p := ⟨b1, _, none⟩) hb1] at c1 c2 c3 c4
      have hx := HOK.out x (List.mem_of_getElem? hkx)
      have HS := Lib.hid (sumL_snoc (who := who) hkx)
      obtain ⟨x1, x2, x3, x4⟩ := x
      obtain ⟨y1, y2, y3⟩ := hx
      simp only at y1 y2 y3 c1 c2 c3 c4
      have i0 : (0 : Int) ≤ (k : Int) := by omega
      have i1 : (k : Int) < (waitsL l).length := by omega
      clear hkx
      cases hd : (x1 == who) with
      | true =>
        have hst : sumL who ((waitsL l).take (k + 1)) = (addS z1 x3, addS z2 x4) := by rw [HS.out, HZ.out]; unfold sumStep; rw [if_pos (by simpa using hd)]
        have HST := Lib.hid hst
        clear hst
        have P1 : Hid (0 ≤ z1 ∧ z1 ≤ 4611686018427387904) := ⟨p1, p2⟩
        have P2 : Hid (0 ≤ z2 ∧ z2 ≤ 4611686018427387904) := ⟨p3, p4⟩
        have Q1 : Hid (0 ≤ x3 ∧ x3 ≤ 9223372036854775807) := ⟨by omega, by omega⟩
        have Q2 : Hid (0 ≤ x4 ∧ x4 ≤ 9223372036854775807) := ⟨by omega, by omega⟩
        go_wp2
        go_quiet ((go_at_call 44; refine Calls.quiet_of_same (ref34_add _ _ _ ?_ ?_); (first | exact P1.out | exact P2.out); (first | exact Q1.out | exact Q2.out)))
        go_wp2
        exact ⟨⟨k + 1, hlt, by go_num, val_i (by rw [HST.out]), val_i (by rw [HST.out]), below_drewN hbel _⟩, by simp [intOf]; omega⟩
      | false =>
        have hst : sumL who ((waitsL l).take (k + 1)) = (z1, z2) := by rw [HS.out, HZ.out]; unfold sumStep; rw [if_neg (by simpa using hd)]
        have HST := Lib.hid hst
        clear hst
        go_wp2
        exact ⟨⟨k + 1, hlt, by go_num, val_i (by rw [HST.out]), val_i (by rw [HST.out]), hbel⟩, by simp [intOf]; omega⟩
    · obtain rfl : k = (waitsL l).length := by omega
      rw [List.take_length] at HZ
      go_wp2
      go_ret2
      exact ⟨ret_ii (by rw [HZ.out]) (by rw [HZ.out]), bstep hbel2 (Nat.le_refl _) hbel⟩

/-- How many are open, and how many at most. -/
def openStep (s : Int × Int) (e : Ev) : Int × Int :=
  let n := if e.k = 1 then s.1 + 1 else if e.k = 3 then s.1 - 1 else s.1
  (n, if s.2 < n then n else s.2)
def openS (l : List Ev) : Int × Int := l.foldl openStep (0, 0)
theorem openS_snoc {l : List Ev} {k : Nat} {e : Ev} (h : l[k]? = some e) : openS (l.take (k + 1)) = openStep (openS (l.take k)) e := by
  unfold openS
  rw [List.take_add_one, h, Option.toList_some, List.foldl_append]
  rfl
def openM (l : List Ev) : Int := if rightB l then (openS l).2 else 0
theorem openS_bd (l : List Ev) : ∀ k : Nat, -(k : Int) ≤ (openS (l.take k)).1 ∧ (openS (l.take k)).1 ≤ k ∧ 0 ≤ (openS (l.take k)).2 ∧ (openS (l.take k)).2 ≤ k
  | 0 => by simp [openS]
  | k + 1 => by
    have ih := openS_bd l k
    cases hk : l[k]? with
    | none =>
      rw [List.take_add_one, hk]
      simp only [Option.toList_none, List.append_nil]
      omega
    | some e =>
      rw [openS_snoc hk]
      unfold openStep
      simp only
      split <;> split <;> (try split) <;> omega

set_option maxHeartbeats 1600000 in
theorem wait_open (l : List Ev) (v : Value) (w : World) (hl : EvsAt w v l) (hlen : l.length ≤ 100000000) :
    Calls Try.prog 28 #[v] w fun r w' => r = .returned (.int .i64 (openM l)) ∧ Below w.heap.size w w' := by
  have HL := Lib.hid hl
  obtain ⟨a, ca, rfl, hl1, hl2, hl3, hl4⟩ := hl
  clear hl3 hl4
  unfold maxLen at hl2
  go_enter Try.func28, Try.ntmps28
  go_wp2_with fail
  refine (hist_right l _ _ HL.out hlen).mono ?_
  rintro r w2 ⟨rfl, hbel2⟩
  have HL2 := Lib.hid (HL.out.below hbel2)
  cases hr : rightB l with
  | false =>
    have hm : openM l = 0 := by unfold openM; rw [hr]; rfl
    have HM := Lib.hid hm
    clear hm hr
    go_wp2
    go_ret
    exact ⟨ret_int HM.out.symm, hbel2⟩
  | true =>
    have hm : openM l = (openS l).2 := by unfold openM; rw [hr]; rfl
    have HM := Lib.hid hm
    clear hm hr
    go_wp2
    go_loopw [3, 4, 12] (fun n m i wr => ∃ k : Nat, k ≤ l.length ∧ i = .int .i64 k ∧ n = .int .i64 (openS (l.take k)).1 ∧ m = .int .i64 (openS (l.take k)).2 ∧ Below w2.heap.size w2 wr) (fun _ _ i _ => l.length - (intOf i).toNat)
    case atStart => exact ⟨0, Nat.zero_le _, rfl, rfl, rfl, Below.refl _ _⟩
    case round =>
      obtain ⟨k, hk, rfl, rfl, rfl, hbel⟩ := hrel
      have hsz := hbel.size
      have hbd := openS_bd l k
      obtain ⟨z, hz⟩ : ∃ z, openS (l.take k) = z := ⟨_, rfl⟩
      rw [hz] at hbd ⊢
      have HZ := Lib.hid hz
      clear hz
      obtain ⟨z1, z2⟩ := z
      obtain ⟨p1, p2, p3, p4⟩ := hbd
      simp only at p1 p2 p3 p4 ⊢
      by_cases hlt : k < l.length
      · obtain ⟨b1, o1, e, rfl, hb1, hke, c1, c2, c3, c4⟩ := EvsAt.get4 HL2.out hlt
        rw [← hbel.cell (p := ⟨b1, _, none⟩) hb1] at c1 c2 c3 c4
        have HS := Lib.hid (openS_snoc hke)
        obtain ⟨ek, ew, en, et⟩ := e
        simp only at c1 c2 c3 c4
        clear hke
        cases hk1 : (ek == 1) with
        | true =>
          have hst : openS (l.take (k + 1)) = (z1 + 1, if z2 < z1 + 1 then z1 + 1 else z2) := by rw [HS.out, HZ.out]; unfold openStep; simp only; rw [if_pos (by simpa using hk1)]
          have HST := Lib.hid hst
          clear hst
          go_wp2
          exact ⟨⟨k + 1, hlt, by go_num, val_i (by rw [HST.out]), val_i (by rw [HST.out]), hbel.alloc hsz _⟩, by simp [intOf]; omega⟩
        | false =>
          cases hk3 : (ek == 3) with
          | true =>
            have hst : openS (l.take (k + 1)) = (z1 - 1, if z2 < z1 - 1 then z1 - 1 else z2) := by rw [HS.out, HZ.out]; unfold openStep; simp only; rw [if_neg (by simpa using hk1), if_pos (by simpa using hk3)]
            have HST := Lib.hid hst
            clear hst
            go_wp2
            exact ⟨⟨k + 1, hlt, by go_num, val_i (by rw [HST.out]), val_i (by rw [HST.out]), hbel.alloc hsz _⟩, by simp [intOf]; omega⟩
          | false =>
            have hst : openS (l.take (k + 1)) = (z1, if z2 < z1 then z1 else z2) := by rw [HS.out, HZ.out]; unfold openStep; simp only; rw [if_neg (by simpa using hk1), if_neg (by simpa using hk3)]
            have HST := Lib.hid hst
            clear hst
            go_wp2
            exact ⟨⟨k + 1, hlt, by go_num, val_i (by rw [HST.out]), val_i (by rw [HST.out]), hbel.alloc hsz _⟩, by simp [intOf]; omega⟩
      · obtain rfl : k = l.length := by omega
        rw [List.take_length] at HZ
        go_wp2
        go_ret
        exact ⟨ret_int (by rw [HM.out, HZ.out]), bstep hbel2 (Nat.le_refl _) hbel⟩

set_option maxHeartbeats 1600000 in
theorem ref34_open (l : List Ev) (v : Value) (w : World) (hl : EvsAt w v l) (hlen : l.length ≤ 100000000) :
    Calls Try.prog 29 #[v] w fun r w' => r = .returned (.int .i64 (openM l)) ∧ Below w.heap.size w w' := by
  have HL := Lib.hid hl
  obtain ⟨a, ca, rfl, hl1, hl2, hl3, hl4⟩ := hl
  clear hl3 hl4
  unfold maxLen at hl2
  go_enter Try.func29, Try.ntmps29
  go_wp2_with fail
  refine (ref19_right l _ _ HL.out hlen).mono ?_
  rintro r w2 ⟨rfl, hbel2⟩
  have HL2 := Lib.hid (HL.out.below hbel2)
  cases hr : rightB l with
  | false =>
    have hm : openM l = 0 := by unfold openM; rw [hr]; rfl
    have HM := Lib.hid hm
    clear hm hr
    go_wp2
    go_ret
    exact ⟨ret_int HM.out.symm, hbel2⟩
  | true =>
    have hm : openM l = (openS l).2 := by unfold openM; rw [hr]; rfl
    have HM := Lib.hid hm
    clear hm hr
    go_wp2
    go_loopw [3, 4, 5] (fun n m i wr => ∃ k : Nat, k ≤ l.length ∧ i = .int .i64 k ∧ n = .int .i64 (openS (l.take k)).1 ∧ m = .int .i64 (openS (l.take k)).2 ∧ Below w2.heap.size w2 wr) (fun _ _ i _ => l.length - (intOf i).toNat)
    case atStart => exact ⟨0, Nat.zero_le _, rfl, rfl, rfl, Below.refl _ _⟩
    case round =>
      obtain ⟨k, hk, rfl, rfl, rfl, hbel⟩ := hrel
      have hsz := hbel.size
      have hbd := openS_bd l k
      obtain ⟨z, hz⟩ : ∃ z, openS (l.take k) = z := ⟨_, rfl⟩
      rw [hz] at hbd ⊢
      have HZ := Lib.hid hz
      clear hz
      obtain ⟨z1, z2⟩ := z
      obtain ⟨p1, p2, p3, p4⟩ := hbd
      simp only at p1 p2 p3 p4 ⊢
      by_cases hlt : k < l.length
      · obtain ⟨b1, o1, e, rfl, hb1, hke, c1, c2, c3, c4⟩ := EvsAt.get4 HL2.out hlt
        rw [← hbel.cell (p := ⟨b1, _, none⟩) hb1] at c1 c2 c3 c4
        have HS := Lib.hid (openS_snoc hke)
        obtain ⟨ek, ew, en, et⟩ := e
        simp only at c1 c2 c3 c4
        clear hke
        cases hk1 : (ek == 1) with
        | true =>
          have hk3 : (ek == 3) = false := by
            have : ek = 1 := by simpa using hk1
            subst this
            rfl
          by_cases hgt : z2 < z1 + 1
          · have hst : openS (l.take (k + 1)) = (z1 + 1, z1 + 1) := by rw [HS.out, HZ.out]; unfold openStep; simp only; rw [if_pos (by simpa using hk1)]; rw [if_pos hgt]
            have HST := Lib.hid hst
            clear hst
            go_wp2
            exact ⟨⟨k + 1, hlt, by go_num, val_i (by rw [HST.out]), val_i (by rw [HST.out]), hbel⟩, by simp [intOf]; omega⟩
          · have hst : openS (l.take (k + 1)) = (z1 + 1, z2) := by rw [HS.out, HZ.out]; unfold openStep; simp only; rw [if_pos (by simpa using hk1)]; rw [if_neg hgt]
            have HST := Lib.hid hst
            clear hst
            go_wp2
            exact ⟨⟨k + 1, hlt, by go_num, val_i (by rw [HST.out]), val_i (by rw [HST.out]), hbel⟩, by simp [intOf]; omega⟩
        | false =>
          cases hk3 : (ek == 3) with
          | true =>
            by_cases hgt : z2 < z1 - 1
            · have hst : openS (l.take (k + 1)) = (z1 - 1, z1 - 1) := by rw [HS.out, HZ.out]; unfold openStep; simp only; rw [if_neg (by simpa using hk1), if_pos (by simpa using hk3)]; rw [if_pos hgt]
              have HST := Lib.hid hst
              clear hst
              go_wp2
              exact ⟨⟨k + 1, hlt, by go_num, val_i (by rw [HST.out]), val_i (by rw [HST.out]), hbel⟩, by simp [intOf]; omega⟩
            · have hst : openS (l.take (k + 1)) = (z1 - 1, z2) := by rw [HS.out, HZ.out]; unfold openStep; simp only; rw [if_neg (by simpa using hk1), if_pos (by simpa using hk3)]; rw [if_neg hgt]
              have HST := Lib.hid hst
              clear hst
              go_wp2
              exact ⟨⟨k + 1, hlt, by go_num, val_i (by rw [HST.out]), val_i (by rw [HST.out]), hbel⟩, by simp [intOf]; omega⟩
          | false =>
            by_cases hgt : z2 < z1
            · have hst : openS (l.take (k + 1)) = (z1, z1) := by rw [HS.out, HZ.out]; unfold openStep; simp only; rw [if_neg (by simpa using hk1), if_neg (by simpa using hk3)]; rw [if_pos hgt]
              have HST := Lib.hid hst
              clear hst
              go_wp2
              exact ⟨⟨k + 1, hlt, by go_num, val_i (by rw [HST.out]), val_i (by rw [HST.out]), hbel⟩, by simp [intOf]; omega⟩
            · have hst : openS (l.take (k + 1)) = (z1, z2) := by rw [HS.out, HZ.out]; unfold openStep; simp only; rw [if_neg (by simpa using hk1), if_neg (by simpa using hk3)]; rw [if_neg hgt]
              have HST := Lib.hid hst
              clear hst
              go_wp2
              exact ⟨⟨k + 1, hlt, by go_num, val_i (by rw [HST.out]), val_i (by rw [HST.out]), hbel⟩, by simp [intOf]; omega⟩
      · obtain rfl : k = l.length := by omega
        rw [List.take_length] at HZ
        go_wp2
        go_ret
        exact ⟨ret_int (by rw [HM.out, HZ.out]), bstep hbel2 (Nat.le_refl _) hbel⟩

end Go.Proofs.Yteaahepjendjmaa
