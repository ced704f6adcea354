/- The walk of the reference's Right. -/
import Derived.Test.YteaahepjendjmaaHistRight
namespace Go.Proofs.Yteaahepjendjmaa
open Go.RowKit
set_option linter.unusedVariables false
set_option linter.unusedSimpArgs false

theorem wrapNat (j : Nat) (h : j ≤ 9223372036854775807) : IntKind.i64.wrap (j : Int) = j := by
  unfold IntKind.wrap
  simp [IntKind.bits, IntKind.signed]
  omega

set_option maxHeartbeats 4000000 in
set_option maxRecDepth 100000 in
theorem ref19_right (l : List Ev) (v : Value) (w : World) (hl : EvsAt w v l) (hlen : l.length ≤ 100000000) :
    Calls Try.prog 12 #[v] w fun r w' => r = .returned (.bool (rightB l)) ∧ Below w.heap.size w w' := by
  have HL := Lib.hid hl
  obtain ⟨a, ca, rfl, hl1, hl2, hl3, hl4⟩ := hl
  clear hl3 hl4
  unfold maxLen at hl2
  go_enter Try.func12, Try.ntmps12
  go_wp2
  go_loopw [4] (fun i wr => ∃ (k : Nat) (cs : List Nat) (ws : Int), k ≤ l.length ∧ i = .int .i64 k ∧ Hid (rightSt (l.take k) = some (cs, ws)) ∧ Hid ((k = 0 ∧ ws = 0) ∨ (1 ≤ ws ∧ 0 < k ∧ ∃ e, l[k - 1]? = some e ∧ e.t = ws)) ∧ cs.length = 9 ∧ Hid (∀ c ∈ cs, c ≤ k) ∧ Hid (TabAt wr w.heap.size w.heap.size 9 cs) ∧ Below w.heap.size w wr) (fun i _ => l.length - (intOf i).toNat)
  case atStart =>
    refine ⟨0, List.replicate 9 0, 0, Nat.zero_le _, rfl, rfl, .inl ⟨rfl, rfl⟩, by simp, fun c hc => by simp at hc; omega, ?_, (Below.refl _ _).alloc (Nat.le_refl _) _⟩
    exact World.ownsRow_lit (base := w.heap.size) (e := 50) (size := 1) w ((List.replicate 9 (0 : Nat)).map fun (c : Nat) => Value.int .i64 (c : Int)).toArray 9 (Nat.le_refl _) (by simp [maxLen]) (by simp)
  case round =>
    obtain ⟨k, cs, ws, hk, rfl, HR, HW, hcs, HC, HT, hbel⟩ := hrel
    by_cases hlt : k < l.length
    · obtain ⟨b1, o1, e, rfl, hb1, hke, c1, c2, c3, c4⟩ := EvsAt.get4 HL.out hlt
      rw [← hbel.cell (p := ⟨b1, _, none⟩) hb1] at c1 c2 c3 c4
      have hsz := hbel.size
      have hbr : b1 < wr.heap.size := by omega
      have HS := Lib.hid (rightSt_snoc hke)
      have HKE := Lib.hid hke
      clear hke
      obtain ⟨ek, ew, en, et⟩ := e
      simp only at c1 c2 c3 c4
      by_cases h0 : et < 1
      · have hws0 : 0 ≤ ws := by rcases HW.out with h | h <;> omega
        have hn : rightSt l = none := rightSt_none (k := k + 1) (by rw [HS.out, HR.out]; simp only [Option.bind_some, rightStep]; rw [if_neg (by rintro ⟨h, _⟩; have h' : ws < et := h; omega)])
        have HN := Lib.hid hn
        clear hn
        go_wp2
        go_quiet (fail)
        go_wp2
        go_ret
        exact ⟨ret_bool (by unfold rightB; rw [HN.out]; rfl), below_drewN (hbel.alloc hsz _) _⟩
      · have hd0 : decide (et < 1) = false := by simp; omega
        rcases HW.out with ⟨hk0, hw0⟩ | ⟨hw1, hkp, ep, hep, hept⟩
        · subst hk0
          subst hw0
          simp only [Nat.zero_mul, Nat.add_zero] at c1 c2 c3 c4
          have hws : (0 : Int) < et := by omega
          by_cases h2 : 1 ≤ ew
          · by_cases h3 : ew ≤ 8
            · obtain ⟨x, rfl⟩ : ∃ x : Nat, ew = x := ⟨ew.toNat, by omega⟩
              have hx9 : x < 9 := by omega
              obtain ⟨m, hm⟩ : ∃ m, cs.getD x 0 = m := ⟨_, rfl⟩
              have t1 := World.ownsRow.cellAt HT.out x (by omega)
              have t2 := World.ownsRow.frozenAt HT.out x
              rw [List.getElem?_map, List.getElem?_eq_getElem (by omega), Option.map_some, show cs[x] = m from by rw [← hm]; simp [hcs, hx9]] at t1
              have hmk : m ≤ 0 := HC.out m (by rw [← hm, List.getD_eq_getElem?_getD, List.getElem?_eq_getElem (by omega)]; exact List.getElem_mem _)
              have HM := Lib.hid hm
              clear hm
              have hw : w.heap.size < wr.heap.size := World.block_lt_of_cell? _ _ t1
              have hd2 : decide ((x : Int) < 1) = false := by simp; omega
              have hd3 : decide ((8 : Int) < (x : Int)) = false := by simp; omega
              cases hd : (ek != (m : Int) % 3 + 1) with
              | true =>
                have hn : rightSt l = none := rightSt_none (k := 0 + 1) (by
                    rw [HS.out, HR.out, Option.bind_some, rightStep, if_pos ⟨hws, h2, h3⟩, if_neg]
                    rintro ⟨h4, _⟩
                    simp only [Int.toNat_natCast, HM.out] at h4
                    rw [bne_iff_ne] at hd
                    apply hd
                    omega)
                have HN := Lib.hid hn
                clear hn
                go_wp2
                go_quiet (fail)
                go_wp2
                go_quiet (fail)
                go_wp2
                go_ret
                exact ⟨ret_bool (by unfold rightB; rw [HN.out]; rfl), below_drewN (below_drewN (hbel.alloc hsz _) _) _⟩
              | false =>
                cases hq : (en != (m : Int) / 3 + 1) with
                | true =>
                  have hn : rightSt l = none := rightSt_none (k := 0 + 1) (by
                      rw [HS.out, HR.out, Option.bind_some, rightStep, if_pos ⟨hws, h2, h3⟩, if_neg]
                      rintro ⟨_, h4⟩
                      simp only [Int.toNat_natCast, HM.out] at h4
                      rw [bne_iff_ne] at hq
                      apply hq
                      omega)
                  have HN := Lib.hid hn
                  clear hn
                  go_wp2
                  go_quiet (fail)
                  go_wp2
                  go_quiet (fail)
                  go_wp2
                  go_ret
                  exact ⟨ret_bool (by unfold rightB; rw [HN.out]; rfl), below_drewN (below_drewN (hbel.alloc hsz _) _) _⟩
                | false =>
                  go_wp2
                  go_quiet (fail)
                  go_wp2
                  go_quiet (fail)
                  go_wp2
                  have e1 : ek = ((m % 3 + 1 : Nat) : Int) := by
                    have : ek = (m : Int) % 3 + 1 := by simpa using hd
                    omega
                  have e2 : en = ((m / 3 + 1 : Nat) : Int) := by
                    have : en = (m : Int) / 3 + 1 := by simpa using hq
                    omega
                  refine ⟨⟨0 + 1, cs.set x (m + 1), et, hlt, by go_num, ?_, .inr ⟨by omega, by omega, _, HKE.out, rfl⟩, by simp [hcs], ?_, ?_, (below_drewN (hbel.alloc hsz _) _).setCell (Nat.le_refl w.heap.size) _⟩, by simp [intOf]; omega⟩
                  · rw [HS.out, HR.out, Option.bind_some, rightStep, if_pos ⟨hws, h2, h3⟩]
                    simp only [Int.toNat_natCast, HM.out]
                    rw [if_pos ⟨e1, e2⟩]
                    exact rfl
                  · intro c hc
                    rcases List.mem_or_eq_of_mem_set hc with h | h
                    · have := HC.out c h
                      omega
                    · omega
                  · have h' := (World.ownsRow.stored (World.ownsRow.alloc HT.out (.cells #[.int .i64 ek, .int .i64 x, .int .i64 en, .int .i64 et] 48)) x (.int .i64 ((m + 1 : Nat) : Int))).1
                    rw [show (cs.map fun (c : Nat) => Value.int .i64 (c : Int)).set x (.int .i64 ((m + 1 : Nat) : Int)) = ((cs.set x (m + 1)).map fun (c : Nat) => Value.int .i64 (c : Int)) from by rw [List.map_set]] at h'
                    exact h'
            · have hd2 : decide (ew < 1) = false := by simp; omega
              have hd3 : 8 < ew := by omega
              have hn : rightSt l = none := rightSt_none (k := 0 + 1) (by rw [HS.out, HR.out]; simp only [Option.bind_some, rightStep]; rw [if_neg (by rintro ⟨_, h⟩; have h' : 1 ≤ ew ∧ ew ≤ 8 := h; omega)])
              have HN := Lib.hid hn
              clear hn
              go_wp2
              go_quiet (fail)
              go_wp2
              go_ret
              exact ⟨ret_bool (by unfold rightB; rw [HN.out]; rfl), below_drewN (hbel.alloc hsz _) _⟩
          · have hd2 : ew < 1 := by omega
            have hn : rightSt l = none := rightSt_none (k := 0 + 1) (by rw [HS.out, HR.out]; simp only [Option.bind_some, rightStep]; rw [if_neg (by rintro ⟨_, h⟩; have h' : 1 ≤ ew ∧ ew ≤ 8 := h; omega)])
            have HN := Lib.hid hn
            clear hn
            go_wp2
            go_quiet (fail)
            go_wp2
            go_ret
            exact ⟨ret_bool (by unfold rightB; rw [HN.out]; rfl), below_drewN (hbel.alloc hsz _) _⟩
        · obtain ⟨j, rfl⟩ : ∃ j, k = j + 1 := ⟨k - 1, by omega⟩
          obtain ⟨b2, o2, e', hadd, hb2, hje, d1, d2, d3, d4⟩ := EvsAt.get4 HL.out (k := j) (by omega)
          simp only [Option.some.injEq, Addr.mk.injEq, and_true] at hadd
          obtain ⟨rfl, rfl⟩ := hadd
          rw [← hbel.cell (p := ⟨b1, _, none⟩) hb1] at d4
          simp only [Nat.add_sub_cancel] at hep
          rw [hje] at hep
          obtain rfl := Option.some.inj hep
          rw [hept] at d4
          clear d1 d2 d3 hje hept hb2
          have hwj : IntKind.i64.wrap (j : Int) = (j : Int) := wrapNat _ (by omega)
          have hjl : j < l.length := by omega
          have hjl2 : (j : Int) < (l.length : Int) := by omega
          by_cases hws : ws < et
          · have hdw : decide (et ≤ ws) = false := by simp; omega
            by_cases h2 : 1 ≤ ew
            · by_cases h3 : ew ≤ 8
              · obtain ⟨x, rfl⟩ : ∃ x : Nat, ew = x := ⟨ew.toNat, by omega⟩
                have hx9 : x < 9 := by omega
                obtain ⟨m, hm⟩ : ∃ m, cs.getD x 0 = m := ⟨_, rfl⟩
                have t1 := World.ownsRow.cellAt HT.out x (by omega)
                have t2 := World.ownsRow.frozenAt HT.out x
                rw [List.getElem?_map, List.getElem?_eq_getElem (by omega), Option.map_some, show cs[x] = m from by rw [← hm]; simp [hcs, hx9]] at t1
                have hmk : m ≤ (j + 1) := HC.out m (by rw [← hm, List.getD_eq_getElem?_getD, List.getElem?_eq_getElem (by omega)]; exact List.getElem_mem _)
                have HM := Lib.hid hm
                clear hm
                have hw : w.heap.size < wr.heap.size := World.block_lt_of_cell? _ _ t1
                have hd2 : decide ((x : Int) < 1) = false := by simp; omega
                have hd3 : decide ((8 : Int) < (x : Int)) = false := by simp; omega
                cases hd : (ek != (m : Int) % 3 + 1) with
                | true =>
                  have hn : rightSt l = none := rightSt_none (k := (j + 1) + 1) (by
                      rw [HS.out, HR.out, Option.bind_some, rightStep, if_pos ⟨hws, h2, h3⟩, if_neg]
                      rintro ⟨h4, _⟩
                      simp only [Int.toNat_natCast, HM.out] at h4
                      rw [bne_iff_ne] at hd
                      apply hd
                      omega)
                  have HN := Lib.hid hn
                  clear hn
                  go_wp2
                  go_quiet (fail)
                  go_wp2
                  go_quiet (fail)
                  go_wp2
                  go_ret
                  exact ⟨ret_bool (by unfold rightB; rw [HN.out]; rfl), below_drewN (below_drewN (hbel.alloc hsz _) _) _⟩
                | false =>
                  cases hq : (en != (m : Int) / 3 + 1) with
                  | true =>
                    have hn : rightSt l = none := rightSt_none (k := (j + 1) + 1) (by
                        rw [HS.out, HR.out, Option.bind_some, rightStep, if_pos ⟨hws, h2, h3⟩, if_neg]
                        rintro ⟨_, h4⟩
                        simp only [Int.toNat_natCast, HM.out] at h4
                        rw [bne_iff_ne] at hq
                        apply hq
                        omega)
                    have HN := Lib.hid hn
                    clear hn
                    go_wp2
                    go_quiet (fail)
                    go_wp2
                    go_quiet (fail)
                    go_wp2
                    go_ret
                    exact ⟨ret_bool (by unfold rightB; rw [HN.out]; rfl), below_drewN (below_drewN (hbel.alloc hsz _) _) _⟩
                  | false =>
                    go_wp2
                    go_quiet (fail)
                    go_wp2
                    go_quiet (fail)
                    go_wp2
                    have e1 : ek = ((m % 3 + 1 : Nat) : Int) := by
                      have : ek = (m : Int) % 3 + 1 := by simpa using hd
                      omega
                    have e2 : en = ((m / 3 + 1 : Nat) : Int) := by
                      have : en = (m : Int) / 3 + 1 := by simpa using hq
                      omega
                    refine ⟨⟨(j + 1) + 1, cs.set x (m + 1), et, hlt, by go_num, ?_, .inr ⟨by omega, by omega, _, HKE.out, rfl⟩, by simp [hcs], ?_, ?_, (below_drewN (hbel.alloc hsz _) _).setCell (Nat.le_refl w.heap.size) _⟩, by simp [intOf]; omega⟩
                    · rw [HS.out, HR.out, Option.bind_some, rightStep, if_pos ⟨hws, h2, h3⟩]
                      simp only [Int.toNat_natCast, HM.out]
                      rw [if_pos ⟨e1, e2⟩]
                      exact rfl
                    · intro c hc
                      rcases List.mem_or_eq_of_mem_set hc with h | h
                      · have := HC.out c h
                        omega
                      · omega
                    · have h' := (World.ownsRow.stored (World.ownsRow.alloc HT.out (.cells #[.int .i64 ek, .int .i64 x, .int .i64 en, .int .i64 et] 48)) x (.int .i64 ((m + 1 : Nat) : Int))).1
                      rw [show (cs.map fun (c : Nat) => Value.int .i64 (c : Int)).set x (.int .i64 ((m + 1 : Nat) : Int)) = ((cs.set x (m + 1)).map fun (c : Nat) => Value.int .i64 (c : Int)) from by rw [List.map_set]] at h'
                      exact h'
              · have hd2 : decide (ew < 1) = false := by simp; omega
                have hd3 : 8 < ew := by omega
                have hn : rightSt l = none := rightSt_none (k := (j + 1) + 1) (by rw [HS.out, HR.out]; simp only [Option.bind_some, rightStep]; rw [if_neg (by rintro ⟨_, h⟩; have h' : 1 ≤ ew ∧ ew ≤ 8 := h; omega)])
                have HN := Lib.hid hn
                clear hn
                go_wp2
                go_quiet (fail)
                go_wp2
                go_ret
                exact ⟨ret_bool (by unfold rightB; rw [HN.out]; rfl), below_drewN (hbel.alloc hsz _) _⟩
            · have hd2 : ew < 1 := by omega
              have hn : rightSt l = none := rightSt_none (k := (j + 1) + 1) (by rw [HS.out, HR.out]; simp only [Option.bind_some, rightStep]; rw [if_neg (by rintro ⟨_, h⟩; have h' : 1 ≤ ew ∧ ew ≤ 8 := h; omega)])
              have HN := Lib.hid hn
              clear hn
              go_wp2
              go_quiet (fail)
              go_wp2
              go_ret
              exact ⟨ret_bool (by unfold rightB; rw [HN.out]; rfl), below_drewN (hbel.alloc hsz _) _⟩
          · have hdw : et ≤ ws := by omega
            have hn : rightSt l = none := rightSt_none (k := (j + 1) + 1) (by rw [HS.out, HR.out]; simp only [Option.bind_some, rightStep]; rw [if_neg (by rintro ⟨h, _⟩; have h' : ws < et := h; omega)])
            have HN := Lib.hid hn
            clear hn
            go_wp2
            go_quiet (fail)
            go_wp2
            go_ret
            exact ⟨ret_bool (by unfold rightB; rw [HN.out]; rfl), below_drewN (hbel.alloc hsz _) _⟩
    · obtain rfl : k = l.length := by omega
      rw [List.take_length] at HR
      go_wp2
      go_ret
      exact ⟨ret_bool (by unfold rightB; rw [HR.out]; rfl), hbel⟩

end Go.Proofs.Yteaahepjendjmaa
