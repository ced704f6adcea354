/- Walks of package owner's exported functions and of its reference: Take, Give, Of, Lacks, New. -/
import Derived.Test.YtdpinfigjeafpaaOwnTurn
namespace Go.Proofs.Ytdpinfigjeafpaa
open Go.RowKit
set_option linter.unusedVariables false
set_option linter.unusedSimpArgs false

/-- May it be taken, given? -/
def takeP (who x : Int) : Bool := x == 0 || x == who
def giveP (who x : Int) : Bool := x == who
def takeR (o ids : List Int) (who : Int) : List Int × Int × Int := turnR o ids who who 140 (takeP who)
def giveR (o ids : List Int) (who : Int) : List Int × Int × Int := turnR o ids who 0 141 (giveP who)

set_option maxHeartbeats 400000 in
theorem owner_mayTake (x who : Int) (B : Nat) (w : World) (hc : w.cell? ⟨B, 0, none⟩ = some (.int .i64 who)) :
    Calls Try.prog 60 #[.int .i64 x, .pointer (some ⟨B, 0, none⟩)] w fun e w' => e = .returned (.bool (takeP who x)) ∧ w = w' := by
  go_enter Try.func60, Try.ntmps60
  go_wp2
  all_goals (go_ret; exact ⟨ret_bool (by simp_all [takeP]), rfl⟩)
set_option maxHeartbeats 400000 in
theorem owner_mayGive (x who : Int) (B : Nat) (w : World) (hc : w.cell? ⟨B, 0, none⟩ = some (.int .i64 who)) :
    Calls Try.prog 66 #[.int .i64 x, .pointer (some ⟨B, 0, none⟩)] w fun e w' => e = .returned (.bool (giveP who x)) ∧ w = w' := by
  go_enter Try.func66, Try.ntmps66
  go_wp2
  all_goals (go_ret; exact ⟨ret_bool rfl, rfl⟩)

set_option maxHeartbeats 800000 in
theorem owner_take (o ids : List Int) (u v : Value) (who : Int) (w : World) (ho : IntsAt w u o) (hi : IntsAt w v ids) (hlen : o.length ≤ 100000000) :
    Calls Try.prog 27 #[u, v, .int .i64 who] w fun e w' => Turned w (takeR o ids who) e w' := by
  have hmf : ∀ (fn : Fn) (first cap : Array Value) (w : World), (Instr.makeFunc fn first cap).run Try.prog w = .ok (.func fn first cap) w := fun _ _ _ _ => rfl
  obtain ⟨R, hR⟩ : ∃ R, takeR o ids who = R := ⟨_, rfl⟩
  have HR := Lib.hid hR
  clear hR
  rw [HR.out]
  obtain ⟨r1, r2, r3⟩ := R
  have q1 := ho.alloc (.cells #[.int .i64 who] 3)
  have q2 := hi.alloc (.cells #[.int .i64 who] 3)
  go_enter Try.func27, Try.ntmps27
  go_wp2_with fail
  refine (owner_turn o ids _ _ who who 140 60 (enters Try.func60 (by kernel_rfl) rfl) #[.pointer (some ⟨w.heap.size, 0, none⟩)] (takeP who) _ q1 q2 hlen
    (fun n W hW => (owner_mayTake _ _ _ W ((CellIs.new w (.int .i64 who) 3).below hW).2).mono fun e W' h => ⟨h.1, h.2 ▸ Below.refl _ _⟩)).mono ?_
  rintro e w1 ⟨⟨v1, rfl, hv1⟩, hb1⟩
  have HV := Lib.hid hv1
  clear hv1
  have e : turnR o ids who who 140 (takeP who) = (r1, r2, r3) := HR.out
  rw [e] at HV ⊢
  go_wp2
  go_ret3
  exact ⟨⟨_, rfl, HV.out⟩, of_alloc hb1⟩

set_option maxHeartbeats 800000 in
theorem owner_give (o ids : List Int) (u v : Value) (who : Int) (w : World) (ho : IntsAt w u o) (hi : IntsAt w v ids) (hlen : o.length ≤ 100000000) :
    Calls Try.prog 32 #[u, v, .int .i64 who] w fun e w' => Turned w (giveR o ids who) e w' := by
  have hmf : ∀ (fn : Fn) (first cap : Array Value) (w : World), (Instr.makeFunc fn first cap).run Try.prog w = .ok (.func fn first cap) w := fun _ _ _ _ => rfl
  obtain ⟨R, hR⟩ : ∃ R, giveR o ids who = R := ⟨_, rfl⟩
  have HR := Lib.hid hR
  clear hR
  rw [HR.out]
  obtain ⟨r1, r2, r3⟩ := R
  have q1 := ho.alloc (.cells #[.int .i64 who] 3)
  have q2 := hi.alloc (.cells #[.int .i64 who] 3)
  go_enter Try.func32, Try.ntmps32
  go_wp2_with fail
  refine (owner_turn o ids _ _ who 0 141 66 (enters Try.func66 (by kernel_rfl) rfl) #[.pointer (some ⟨w.heap.size, 0, none⟩)] (giveP who) _ q1 q2 hlen
    (fun n W hW => (owner_mayGive _ _ _ W ((CellIs.new w (.int .i64 who) 3).below hW).2).mono fun e W' h => ⟨h.1, h.2 ▸ Below.refl _ _⟩)).mono ?_
  rintro e w1 ⟨⟨v1, rfl, hv1⟩, hb1⟩
  have HV := Lib.hid hv1
  clear hv1
  have e : turnR o ids who 0 141 (giveP who) = (r1, r2, r3) := HR.out
  rw [e] at HV ⊢
  go_wp2
  go_ret3
  exact ⟨⟨_, rfl, HV.out⟩, of_alloc hb1⟩

/-- The ids below k at which owners say who; all of them. -/
def ofTo (o : List Int) (who : Int) : Nat → List Int
  | 0 => []
  | k + 1 => ofTo o who k ++ if o.getD k 0 = who then [(k : Int)] else []
def ofL (o : List Int) (who : Int) : List Int := ofTo o who o.length
theorem ofTo_succ (o : List Int) (who : Int) (k : Nat) : ofTo o who (k + 1) = ofTo o who k ++ if o.getD k 0 = who then [(k : Int)] else [] := rfl
theorem ofTo_len (o : List Int) (who : Int) (k : Nat) : (ofTo o who k).length ≤ k := by
  induction k with
  | zero => simp [ofTo]
  | succ k ih => rw [ofTo]; split <;> simp <;> omega

set_option maxHeartbeats 800000 in
theorem owner_of (o : List Int) (u : Value) (who : Int) (w : World) (ho : IntsAt w u o) (hlen : o.length ≤ 100000000) :
    Calls Try.prog 36 #[u, .int .i64 who] w fun e w' => GivesInts w (ofL o who) e w' := by
  have HO := Lib.hid ho
  obtain ⟨a, ca, rfl, hl1, hl2, hl3, hl4⟩ := ho
  clear hl3 hl4
  unfold maxLen at hl2
  go_enter Try.func36, Try.ntmps36
  go_wp2
  go_loopw [5, 10] (fun v i wr => ∃ k : Nat, k ≤ o.length ∧ i = .int .i64 k ∧ Hid (OwnInts wr w.heap.size v (ofTo o who k)) ∧ Below w.heap.size w wr) (fun _ i _ => o.length - (intOf i).toNat)
  case atStart => exact ⟨0, Nat.zero_le _, rfl, OwnInts.nil _ _, Below.refl _ _⟩
  case round =>
    obtain ⟨k, hk, rfl, HV, hbel⟩ := hrel
    by_cases hlt : k < o.length
    · obtain ⟨b1, o1, rfl, hb1, c1⟩ := HO.out.get hlt
      rw [← hbel.cell (p := ⟨b1, _, none⟩) hb1] at c1
      obtain ⟨x, hx⟩ : ∃ x, o.getD k 0 = x := ⟨_, rfl⟩
      rw [hx] at c1
      have HX := Lib.hid hx
      have HS := Lib.hid (ofTo_succ o who k)
      have HL := Lib.hid (ofTo_len o who k)
      clear hx
      by_cases hw : x = who
      · have hd : (x == who) = true := by simpa using hw
        go_wp2_with (at_builtin; refine wpList_append_ints rfl (.tmp 18) (.tmp 20) rfl w.heap.size _ _ rfl (HV.out.alloc _) _ [(k : Int)] rfl (IntsAt.lit1 _ _) ?_ ?_ ?_)
        · have := HL.out
          simp
          omega
        · have := hbel.size
          simp
          omega
        · intro v1 w1 hown1 hg1 hb9
          have HV1 := Lib.hid hown1
          clear hown1 hg1
          go_wp2
          refine ⟨⟨k + 1, hlt, by go_num, ?_, (hbel.alloc hbel.size _).trans hb9⟩, by simp [intOf]; omega⟩
          rw [HS.out, HX.out, if_pos hw]
          exact HV1.out
      · have hd : (x == who) = false := by simpa using hw
        go_wp2
        refine ⟨⟨k + 1, hlt, by go_num, ?_, hbel⟩, by simp [intOf]; omega⟩
        rw [HS.out, HX.out, if_neg hw, List.append_nil]
        exact HV.out
    · go_wp2
      go_ret
      obtain rfl : k = o.length := by omega
      exact ⟨⟨_, rfl, HV.out.ints⟩, hbel⟩

set_option maxHeartbeats 800000 in
theorem ref14_of (o : List Int) (u : Value) (who : Int) (w : World) (ho : IntsAt w u o) (hlen : o.length ≤ 100000000) :
    Calls Try.prog 37 #[u, .int .i64 who] w fun e w' => GivesInts w (ofL o who) e w' := by
  have HO := Lib.hid ho
  obtain ⟨a, ca, rfl, hl1, hl2, hl3, hl4⟩ := ho
  clear hl3 hl4
  unfold maxLen at hl2
  go_enter Try.func37, Try.ntmps37
  go_wp2
  go_loopw [5, 6] (fun v i wr => ∃ k : Nat, k ≤ o.length ∧ i = .int .i64 k ∧ Hid (OwnInts wr w.heap.size v (ofTo o who k)) ∧ Below w.heap.size w wr) (fun _ i _ => o.length - (intOf i).toNat)
  case atStart => exact ⟨0, Nat.zero_le _, rfl, OwnInts.nil _ _, Below.refl _ _⟩
  case round =>
    obtain ⟨k, hk, rfl, HV, hbel⟩ := hrel
    by_cases hlt : k < o.length
    · obtain ⟨b1, o1, rfl, hb1, c1⟩ := HO.out.get hlt
      rw [← hbel.cell (p := ⟨b1, _, none⟩) hb1] at c1
      obtain ⟨x, hx⟩ : ∃ x, o.getD k 0 = x := ⟨_, rfl⟩
      rw [hx] at c1
      have HX := Lib.hid hx
      have HS := Lib.hid (ofTo_succ o who k)
      have HL := Lib.hid (ofTo_len o who k)
      clear hx
      by_cases hw : x = who
      · have hd : (x == who) = true := by simpa using hw
        go_wp2_with (at_builtin; refine wpList_append_ints rfl (.tmp 19) (.tmp 21) rfl w.heap.size _ _ rfl (HV.out.alloc _) _ [(k : Int)] rfl (IntsAt.lit1 _ _) ?_ ?_ ?_)
        · have := HL.out
          simp
          omega
        · have := hbel.size
          simp
          omega
        · intro v1 w1 hown1 hg1 hb9
          have HV1 := Lib.hid hown1
          clear hown1 hg1
          go_wp2
          refine ⟨⟨k + 1, hlt, by go_num, ?_, (hbel.alloc hbel.size _).trans hb9⟩, by simp [intOf]; omega⟩
          rw [HS.out, HX.out, if_pos hw]
          exact HV1.out
      · have hd : (x == who) = false := by simpa using hw
        go_wp2
        refine ⟨⟨k + 1, hlt, by go_num, ?_, hbel⟩, by simp [intOf]; omega⟩
        rw [HS.out, HX.out, if_neg hw, List.append_nil]
        exact HV.out
    · go_wp2
      go_ret
      obtain rfl : k = o.length := by omega
      exact ⟨⟨_, rfl, HV.out.ints⟩, hbel⟩

/-- Does the k-th id lack? The first that does. -/
def lackAt (o ids : List Int) (who : Int) (k : Nat) : Bool := decide (ids.getD k 0 < 0) || decide ((o.length : Int) ≤ ids.getD k 0) || (o.getD (ids.getD k 0).toNat 0 != who)
def lacksV (o ids : List Int) (who : Int) : Value := match firstIdx (lackAt o ids who) ids.length with | some k => .tuple #[.int .i64 (ids.getD k 0), .bool true] | none => .tuple #[.int .i64 0, .bool false]
theorem lacksV_some {o ids : List Int} {who : Int} {k : Nat} (h : firstIdx (lackAt o ids who) ids.length = some k) : lacksV o ids who = .tuple #[.int .i64 (ids.getD k 0), .bool true] := by unfold lacksV; rw [h]
theorem lacksV_none {o ids : List Int} {who : Int} (h : firstIdx (lackAt o ids who) ids.length = none) : lacksV o ids who = .tuple #[.int .i64 0, .bool false] := by unfold lacksV; rw [h]

set_option maxHeartbeats 800000 in
theorem owner_lacks (o ids : List Int) (u v : Value) (who : Int) (w : World) (ho : IntsAt w u o) (hi : IntsAt w v ids) :
    Calls Try.prog 34 #[u, v, .int .i64 who] w fun e w' => e = .returned (lacksV o ids who) ∧ w = w' := by
  have HO := Lib.hid ho
  have HI := Lib.hid hi
  obtain ⟨a, ca, rfl, hl1, hl2, hl3, hl4⟩ := ho
  obtain ⟨b, cb, rfl, hm1, hm2, hm3, hm4⟩ := hi
  clear hl3 hl4 hm3 hm4
  unfold maxLen at hl2 hm2
  go_enter Try.func34, Try.ntmps34
  go_wp2
  go_loop [12] (fun i => ∃ k : Nat, k ≤ ids.length ∧ i = .int .i64 k ∧ NoneYet (lackAt o ids who) k) (fun i => ids.length - (intOf i).toNat)
  case atStart => exact ⟨0, Nat.zero_le _, rfl, NoneYet.zero _⟩
  case round =>
    obtain ⟨k, hk, rfl, hs⟩ := hrel
    by_cases hlt : k < ids.length
    · obtain ⟨b1, o1, rfl, hb1, c1⟩ := HI.out.get hlt
      obtain ⟨x, hx⟩ : ∃ x, ids.getD k 0 = x := ⟨_, rfl⟩
      rw [hx] at c1
      have HX := Lib.hid hx
      clear hx
      by_cases hr : 0 ≤ x ∧ x < o.length
      · obtain ⟨hr0, hr1⟩ := hr
        obtain ⟨n, rfl⟩ : ∃ n : Nat, x = n := ⟨x.toNat, by omega⟩
        have hn : n < o.length := by omega
        obtain ⟨b2, o2, rfl, hb2, c2⟩ := HO.out.get hn
        obtain ⟨y, hy⟩ : ∃ y, o.getD n 0 = y := ⟨_, rfl⟩
        rw [hy] at c2
        have HY := Lib.hid hy
        clear hy
        by_cases hyw : y = who
        · have hd : (y != who) = false := by simpa using hyw
          have HB := Lib.hid (show lackAt o ids who k = false from by simp only [lackAt, HX.out, Int.toNat_natCast, HY.out, hd]; simp; omega)
          go_wp2
          exact ⟨⟨k + 1, hlt, by go_num, hs.succ HB.out⟩, by simp [intOf]; omega⟩
        · have hd : (y != who) = true := by simpa using hyw
          have HB := Lib.hid (show lackAt o ids who k = true from by simp only [lackAt, HX.out, Int.toNat_natCast, HY.out, hd]; simp)
          go_wp2
          go_ret2
          refine ⟨?_, rfl⟩
          rw [lacksV_some (firstIdx_some hs hlt HB.out), HX.out]
          rfl
      · have HB := Lib.hid (show lackAt o ids who k = true from by simp only [lackAt, HX.out]; simp; omega)
        by_cases hneg : x < 0
        all_goals
          go_wp2
          go_ret2
          refine ⟨?_, rfl⟩
          rw [lacksV_some (firstIdx_some hs hlt HB.out), HX.out]
          rfl
    · go_wp2
      go_ret2
      obtain rfl : k = ids.length := by omega
      refine ⟨?_, rfl⟩
      rw [lacksV_none (firstIdx_none hs)]
      rfl

set_option maxHeartbeats 800000 in
theorem ref14_lacks (o ids : List Int) (u v : Value) (who : Int) (w : World) (ho : IntsAt w u o) (hi : IntsAt w v ids) :
    Calls Try.prog 35 #[u, v, .int .i64 who] w fun e w' => e = .returned (lacksV o ids who) ∧ w = w' := by
  have HO := Lib.hid ho
  have HI := Lib.hid hi
  obtain ⟨a, ca, rfl, hl1, hl2, hl3, hl4⟩ := ho
  obtain ⟨b, cb, rfl, hm1, hm2, hm3, hm4⟩ := hi
  clear hl3 hl4 hm3 hm4
  unfold maxLen at hl2 hm2
  go_enter Try.func35, Try.ntmps35
  go_wp2
  go_loop [8] (fun i => ∃ k : Nat, k ≤ ids.length ∧ i = .int .i64 k ∧ NoneYet (lackAt o ids who) k) (fun i => ids.length - (intOf i).toNat)
  case atStart => exact ⟨0, Nat.zero_le _, rfl, NoneYet.zero _⟩
  case round =>
    obtain ⟨k, hk, rfl, hs⟩ := hrel
    by_cases hlt : k < ids.length
    · obtain ⟨b1, o1, rfl, hb1, c1⟩ := HI.out.get hlt
      obtain ⟨x, hx⟩ : ∃ x, ids.getD k 0 = x := ⟨_, rfl⟩
      rw [hx] at c1
      have HX := Lib.hid hx
      clear hx
      by_cases hr : 0 ≤ x ∧ x < o.length
      · obtain ⟨hr0, hr1⟩ := hr
        obtain ⟨n, rfl⟩ : ∃ n : Nat, x = n := ⟨x.toNat, by omega⟩
        have hn : n < o.length := by omega
        obtain ⟨b2, o2, rfl, hb2, c2⟩ := HO.out.get hn
        obtain ⟨y, hy⟩ : ∃ y, o.getD n 0 = y := ⟨_, rfl⟩
        rw [hy] at c2
        have HY := Lib.hid hy
        clear hy
        by_cases hyw : y = who
        · have hd : (y != who) = false := by simpa using hyw
          have HB := Lib.hid (show lackAt o ids who k = false from by simp only [lackAt, HX.out, Int.toNat_natCast, HY.out, hd]; simp; omega)
          go_wp2
          exact ⟨⟨k + 1, hlt, by go_num, hs.succ HB.out⟩, by simp [intOf]; omega⟩
        · have hd : (y != who) = true := by simpa using hyw
          have HB := Lib.hid (show lackAt o ids who k = true from by simp only [lackAt, HX.out, Int.toNat_natCast, HY.out, hd]; simp)
          go_wp2
          go_ret2
          refine ⟨?_, rfl⟩
          rw [lacksV_some (firstIdx_some hs hlt HB.out), HX.out]
          rfl
      · have HB := Lib.hid (show lackAt o ids who k = true from by simp only [lackAt, HX.out]; simp; omega)
        by_cases hneg : x < 0
        all_goals
          go_wp2
          go_ret2
          refine ⟨?_, rfl⟩
          rw [lacksV_some (firstIdx_some hs hlt HB.out), HX.out]
          rfl
    · go_wp2
      go_ret2
      obtain rfl : k = ids.length := by omega
      refine ⟨?_, rfl⟩
      rw [lacksV_none (firstIdx_none hs)]
      rfl

end Go.Proofs.Ytdpinfigjeafpaa
