/- Walks of sets.Apart, sets.Twice (over a map) and the reference's Twice. -/
import Derived.Test.YtdpinfigjeafpaaSetTop
import Derived.Maps.OwnSet
import Derived.Deep.DeepMust
namespace Go.Proofs.Ytdpinfigjeafpaa
open Go.RowKit Go.Maps
set_option linter.unusedVariables false
set_option linter.unusedSimpArgs false

/-- Nothing is in both. -/
def apartB (a b : List Int) : Bool := a.all fun n => !decide (n ∈ b)
theorem apartB_iff (a b : List Int) : apartB a b = true ↔ ∀ n, n ∈ a → n ∉ b := by simp [apartB]
theorem apartB_swap (a b : List Int) : apartB a b = apartB b a := by
  rw [Bool.eq_iff_iff, apartB_iff, apartB_iff]
  exact ⟨fun h n h1 h2 => h n h2 h1, fun h n h1 h2 => h n h2 h1⟩

set_option maxHeartbeats 400000 in
theorem sets_apart (l m : List Int) (u v : Value) (w : World) (hl : IntsAt w u l) (hm : IntsAt w v m) (hr : riseB l = true) (hs : riseB m = true) :
    Calls Try.prog 54 #[u, v] w fun e w' => e = .returned (.bool (apartB l m)) ∧ w = w' := by
  obtain ⟨a, ca, rfl, _⟩ : ∃ a ca, u = .slice a l.length ca ∧ IntsAt w u l := by
    obtain ⟨a, ca, h, _⟩ := id hl
    exact ⟨a, ca, h, hl⟩
  obtain ⟨b, cb, rfl, _⟩ : ∃ b cb, v = .slice b m.length cb ∧ IntsAt w v m := by
    obtain ⟨a, ca, h, _⟩ := id hm
    exact ⟨a, ca, h, hm⟩
  have hl2 : l.length ≤ 9223372036854775807 := by obtain ⟨_, _, h, h1, h2, _⟩ := hl; unfold maxLen at h2; omega
  have hm2 : m.length ≤ 9223372036854775807 := by obtain ⟨_, _, h, h1, h2, _⟩ := hm; unfold maxLen at h2; omega
  have HL := Lib.hid hl
  have HM := Lib.hid hm
  have HR := Lib.hid hr
  have HS := Lib.hid hs
  clear hl hm hr hs
  by_cases hsw : m.length < l.length
  · go_enter Try.func54, Try.ntmps54
    go_wp2
    go_loop [16] (fun i => ∃ k : Nat, k ≤ m.length ∧ i = .int .i64 k ∧ NoneYet (fun j => decide (m.getD j 0 ∈ l)) k) (fun i => m.length - (intOf i).toNat)
    case atStart => exact ⟨0, Nat.zero_le _, rfl, NoneYet.zero _⟩
    case round =>
      obtain ⟨k, hk, rfl, hs⟩ := hrel
      by_cases hlt : k < m.length
      · obtain ⟨b1, o1, rfl, hb1, c1⟩ := HM.out.get hlt
        obtain ⟨x, hx⟩ : ∃ x, m.getD k 0 = x := ⟨_, rfl⟩
        rw [hx] at c1
        have HX := Lib.hid hx
        clear hx
        go_wp2_with fail
        refine (sets_has l _ _ _ HL.out HR.out).mono ?_
        rintro e w' ⟨rfl, rfl⟩
        by_cases hmem : x ∈ l
        · have hd : decide (x ∈ l) = true := by simpa using hmem
          simp only [hd]
          go_wp2
          go_ret
          refine ⟨ret_bool ?_, rfl⟩
          symm
          rw [Bool.eq_false_iff]
          intro h
          rw [apartB_swap, apartB_iff] at h
          refine h x ?_ hmem
          rw [← HX.out]
          simp [hlt]
        · have hd : decide (x ∈ l) = false := by simpa using hmem
          simp only [hd]
          go_wp2
          exact ⟨⟨k + 1, hlt, by go_num, hs.succ (by rw [HX.out]; exact hd)⟩, by simp [intOf]; omega⟩
      · go_wp2
        go_ret
        obtain rfl : k = m.length := by omega
        refine ⟨ret_bool ?_, rfl⟩
        symm
        suffices h : apartB m l = true by rw [apartB_swap]; exact h
        rw [apartB_iff]
        intro n hn
        obtain ⟨j, hj, rfl⟩ := List.getElem_of_mem hn
        have := hs j hj
        simpa [hj] using this
  · go_enter Try.func54, Try.ntmps54
    go_wp2
    go_loop [16] (fun i => ∃ k : Nat, k ≤ l.length ∧ i = .int .i64 k ∧ NoneYet (fun j => decide (l.getD j 0 ∈ m)) k) (fun i => l.length - (intOf i).toNat)
    case atStart => exact ⟨0, Nat.zero_le _, rfl, NoneYet.zero _⟩
    case round =>
      obtain ⟨k, hk, rfl, hs⟩ := hrel
      by_cases hlt : k < l.length
      · obtain ⟨b1, o1, rfl, hb1, c1⟩ := HL.out.get hlt
        obtain ⟨x, hx⟩ : ∃ x, l.getD k 0 = x := ⟨_, rfl⟩
        rw [hx] at c1
        have HX := Lib.hid hx
        clear hx
        go_wp2_with fail
        refine (sets_has m _ _ _ HM.out HS.out).mono ?_
        rintro e w' ⟨rfl, rfl⟩
        by_cases hmem : x ∈ m
        · have hd : decide (x ∈ m) = true := by simpa using hmem
          simp only [hd]
          go_wp2
          go_ret
          refine ⟨ret_bool ?_, rfl⟩
          symm
          rw [Bool.eq_false_iff]
          intro h
          rw [apartB_iff] at h
          refine h x ?_ hmem
          rw [← HX.out]
          simp [hlt]
        · have hd : decide (x ∈ m) = false := by simpa using hmem
          simp only [hd]
          go_wp2
          exact ⟨⟨k + 1, hlt, by go_num, hs.succ (by rw [HX.out]; exact hd)⟩, by simp [intOf]; omega⟩
      · go_wp2
        go_ret
        obtain rfl : k = l.length := by omega
        refine ⟨ret_bool ?_, rfl⟩
        symm
        suffices h : apartB l m = true by exact h
        rw [apartB_iff]
        intro n hn
        obtain ⟨j, hj, rfl⟩ := List.getElem_of_mem hn
        have := hs j hj
        simpa [hj] using this

/-- The first place whose number stood ahead of it. -/
def twiceAt (l : List Int) (j : Nat) : Bool := decide (l.getD j 0 ∈ l.take j)
def twiceI (l : List Int) : Int := match firstIdx (twiceAt l) l.length with | some k => (k : Int) | none => -1
theorem take_mem_succ {l : List Int} {k : Nat} (hk : k < l.length) (n : Int) : n ∈ l.take (k + 1) ↔ n ∈ l.take k ∨ n = l.getD k 0 := by
  rw [List.take_succ_eq_append_getElem hk]
  simp only [List.mem_append, List.mem_singleton]
  rw [show l.getD k 0 = l[k] from by simp [hk]]

set_option maxHeartbeats 400000 in
theorem ref04_twice (l : List Int) (v : Value) (w : World) (hl : IntsAt w v l) :
    Calls Try.prog 47 #[v] w fun e w' => e = .returned (.int .i64 (twiceI l)) ∧ Below w.heap.size w w' := by
  have HL := Lib.hid hl
  obtain ⟨a, ca, rfl, hl1, hl2, hl3, hl4⟩ := hl
  clear hl3 hl4
  unfold maxLen at hl2
  go_enter Try.func47, Try.ntmps47
  go_wp2
  go_loopw [3] (fun i wr => ∃ k : Nat, k ≤ l.length ∧ i = .int .i64 k ∧ NoneYet (twiceAt l) k ∧ Below w.heap.size w wr) (fun i _ => l.length - (intOf i).toNat)
  case atStart => exact ⟨0, Nat.zero_le _, rfl, NoneYet.zero _, Below.refl _ _⟩
  case round =>
    obtain ⟨k, hk, rfl, hs, hbel⟩ := hrel
    by_cases hlt : k < l.length
    · obtain ⟨b1, o1, rfl, hb1, c1⟩ := HL.out.get hlt
      rw [← hbel.cell (p := ⟨b1, _, none⟩) hb1] at c1
      obtain ⟨x, hx⟩ : ∃ x, l.getD k 0 = x := ⟨_, rfl⟩
      rw [hx] at c1
      have HX := Lib.hid hx
      clear hx
      have hkc : k ≤ ca := Nat.le_trans hk hl1
      have hT := (HL.out.front (k := k) hk).below hbel
      have hsz : b1 < wr.heap.size := by have := hbel.size; omega
      have HT := Lib.hid (show twiceAt l k = decide (x ∈ l.take k) from by unfold twiceAt; rw [HX.out])
      go_wp2
      go_region_held3 (fun w' => Below wr.heap.size wr w' ∧ (∀ b o, b < wr.heap.size → w'.cell? ⟨b, o, none⟩ = wr.cell? ⟨b, o, none⟩) ∧ ∀ b o, b < wr.heap.size → w'.frozen? ⟨b, o, none⟩ = wr.frozen? ⟨b, o, none⟩)
        (first | exact Keeps.atDraw _ | assumption)
        ((go_at_call 40; refine (ref04_in (l.take k) _ _ _ (hT.below (Keeps.bel (by assumption)))).mono ?_; rintro e w' ⟨rfl, rfl⟩))
      all_goals (rename_i hH; have hbel2 := bstep hbel (Nat.le_refl _) hH.1; clear hH)
      all_goals go_wp2
      · go_ret
        exact ⟨ret_int (by unfold twiceI; rw [firstIdx_some hs hlt (by rw [HT.out]; simpa using (by assumption : x ∈ l.take k))]), hbel2⟩
      · exact ⟨⟨k + 1, hlt, by go_num, hs.succ (by rw [HT.out]; simpa using (by assumption : ¬ x ∈ l.take k)), hbel2⟩, by simp [intOf]; omega⟩
    · go_wp2
      go_ret
      obtain rfl : k = l.length := by omega
      exact ⟨ret_int (by unfold twiceI; rw [firstIdx_none hs]), hbel⟩

theorem lawInt : Keyed Try.prog 3 := int_keyed Try.underlying3
theorem zeroInt (w : World) : (zeroValue 3).run Try.prog w = .ok (.int .i64 0) w := by kernel_rfl

set_option maxHeartbeats 400000 in
theorem sets_twice (l : List Int) (v : Value) (w : World) (hl : IntsAt w v l) (hwf : Wfs l) (hlen : l.length ≤ 100000000) :
    Calls Try.prog 46 #[v] w fun e w' => e = .returned (.int .i64 (twiceI l)) ∧ Below w.heap.size w w' := by
  have hmm := @run_makeMap Try.prog
  have HL := Lib.hid hl
  have HW := Lib.hid hwf
  clear hwf
  obtain ⟨a, ca, rfl, hl1, hl2, hl3, hl4⟩ := hl
  clear hl3 hl4
  unfold maxLen at hl2
  go_enter Try.func46, Try.ntmps46
  go_wp2
  go_loopw [11] (fun i wr => ∃ (k : Nat) (D : DataW Unit), k ≤ l.length ∧ i = .int .i64 k ∧ NoneYet (twiceAt l) k ∧ Below w.heap.size w wr ∧ wr.ownsMap Try.prog 3 (plainElem Try.prog 3) w.heap.size k D ∧
      Hid (IsMap D ∧ ∀ n, Maps.has D (.int .i64 n) = decide (n ∈ l.take k))) (fun i _ => l.length - (intOf i).toNat)
  case atStart => exact ⟨0, .map [], Nat.zero_le _, rfl, NoneYet.zero _, (Below.refl _ _).alloc (Nat.le_refl _) _, World.ownsMap_made _ _ _ _, isMap_empty, fun n => rfl⟩
  case round =>
    obtain ⟨k, D, hk, rfl, hs, hbel, hown, HD⟩ := hrel
    have HO := Lib.hid hown
    clear hown
    by_cases hlt : k < l.length
    · obtain ⟨b1, o1, rfl, hb1, c1⟩ := HL.out.get hlt
      rw [← hbel.cell (p := ⟨b1, _, none⟩) hb1] at c1
      obtain ⟨x, hx⟩ : ∃ x, l.getD k 0 = x := ⟨_, rfl⟩
      rw [hx] at c1
      have HX := Lib.hid hx
      clear hx
      have hsz : b1 < wr.heap.size := by have := hbel.size; omega
      have HT := Lib.hid (show twiceAt l k = decide (x ∈ l.take k) from by unfold twiceAt; rw [HX.out])
      have hkey : keyOf Try.prog 3 (.int .i64 x) = some (.int .i64 x) := keyOf_int_mk Try.underlying3 (HW.out x (by rw [← HX.out]; simp [hlt]))
      have HK := Lib.hid hkey
      have HKM := Lib.hid (show k < maxLen from by unfold maxLen; omega)
      have HWK := Lib.hid (show (Lit.int .i64 (k : Int)).wf = true from WalkArith.wf_i64 (by omega))
      clear hkey
      by_cases hmem : x ∈ l.take k
      · have hd : Maps.has D (.int .i64 x) = true := by rw [HD.out.2]; simpa using hmem
        go_wp2_with (at_lookup; refine wpList_lookup_own_ok_int _ rfl _ _ 65 rfl 3 3 .i64 lawInt Try.underlying65 Try.underlying3 (zeroInt _) w.heap.size k _ rfl HO.out _ _ rfl HK.out ?_; intro c hat hwc; clear hat hwc; rw [hd])
        go_ret
        exact ⟨ret_int (by unfold twiceI; rw [firstIdx_some hs hlt (by rw [HT.out]; simpa using hmem)]), hbel⟩
      · have hd : Maps.has D (.int .i64 x) = false := by rw [HD.out.2]; simpa using hmem
        go_wp2_with (first
          | (at_lookup; refine wpList_lookup_own_ok_int _ rfl _ _ 65 rfl 3 3 .i64 lawInt Try.underlying65 Try.underlying3 (zeroInt _) w.heap.size k _ rfl HO.out _ _ rfl HK.out ?_; intro c hat hwc; clear hat hwc; rw [hd])
          | (at_mapUpdate; (refine wpList_mapUpdate_own _ rfl _ _ _ 65 rfl 3 3 lawInt Try.underlying65 _ w.heap.size k _ rfl HO.out HKM.out _ _ _ rfl rfl HK.out _ [] (plainElem_int Try.underlying3 HWK.out) ?_); intro w1 hown1 hgrow1))
        have HO1 := Lib.hid hown1
        clear hown1
        go_wp2
        refine ⟨⟨k + 1, D.put (.int .i64 x) (.lit (.int .i64 k)), hlt, by go_num, hs.succ (by rw [HT.out]; simpa using hmem), hbel.grown hgrow1 hbel.size (fun j hj => by cases hj; exact Nat.le_refl _), HO1.out, ?_⟩, by simp [intOf]; omega⟩
        refine ⟨HD.out.1.put _ _, fun n => ?_⟩
        have e : n ∈ l.take (k + 1) ↔ n ∈ l.take k ∨ n = x := by rw [take_mem_succ hlt, HX.out]
        by_cases hn : n = x
        · subst hn
          rw [has_put_same HD.out.1 (by trivial)]
          symm
          rw [decide_eq_true_iff, e]
          exact .inr rfl
        · rw [has_put_other (by intro h; injection h with _ h; exact hn h), HD.out.2, Bool.eq_iff_iff, decide_eq_true_iff, decide_eq_true_iff, e]
          simp [hn]
    · go_wp2
      go_ret
      obtain rfl : k = l.length := by omega
      exact ⟨ret_int (by unfold twiceI; rw [firstIdx_none hs]), hbel⟩

end Go.Proofs.Ytdpinfigjeafpaa
