/- The walk of owner.turn, which takes and gives, and of what rests on it. -/
import Derived.Test.YtdpinfigjeafpaaOwnFns
namespace Go.Proofs.Ytdpinfigjeafpaa
open Go.RowKit
set_option linter.unusedVariables false
set_option linter.unusedSimpArgs false

/-- A block of one cell. -/
def CellIs (w : World) (b : Nat) (v : Value) : Prop := b < w.heap.size ∧ w.cell? ⟨b, 0, none⟩ = some v
theorem CellIs.below {w w' : World} {b : Nat} {v : Value} (h : CellIs w b v) (hb : Below w.heap.size w w') : CellIs w' b v :=
  ⟨Nat.lt_of_lt_of_le h.1 hb.size, (hb.cell (p := ⟨b, 0, none⟩) h.1).trans h.2⟩
theorem CellIs.new (w : World) (v : Value) (t : TypeId) : CellIs (w.alloc (.cells #[v] t)) w.heap.size v := ⟨by simp, by go_simp⟩
theorem CellIs.new2 (w : World) (o : Obj) (v : Value) (t : TypeId) : CellIs ((w.alloc o).alloc (.cells #[v] t)) (w.heap.size + 1) v := ⟨by simp, by go_simp⟩
theorem CellIs.alloc {w : World} {b : Nat} {v : Value} (h : CellIs w b v) (o : Obj) : CellIs (w.alloc o) b v := h.below ((Below.refl _ _).alloc (Nat.le_refl _) o)

/-- The first id that has no place; the first that may not be had. -/
def turnBad (n : Nat) (ids : List Int) : Option Nat := firstIdx (fun j => decide (ids.getD j 0 < 0) || decide ((n : Int) ≤ ids.getD j 0)) ids.length
def turnNot (o ids : List Int) (pm : Int → Bool) : Option Nat := firstIdx (fun j => !pm (o.getD (ids.getD j 0).toNat 0)) ids.length
/-- What becomes of owners, of whom some ids are asked. -/
def turnR (o ids : List Int) (who y e : Int) (pm : Int → Bool) : List Int × Int × Int :=
  if rightO o && armN who && riseB ids then
    match turnBad o.length ids with
    | some k => ([], ids.getD k 0, 3)
    | none => match turnNot o ids pm with
      | some k => ([], ids.getD k 0, e)
      | none => (setAll o ids y, 0, 0)
  else ([], 0, 1)
theorem turnBad_none {n : Nat} {ids : List Int} (h : turnBad n ids = none) : InRange n ids := fun j hj => by
  have := firstIdx_none_spec h j hj
  simp at this
  simp
  omega
/-- A call gives owners, a number, an error. -/
def Turned (w : World) (r : List Int × Int × Int) (e : Ending) (w' : World) : Prop := (∃ v, e = .returned (.tuple #[v, .int .i64 r.2.1, .int .i64 r.2.2]) ∧ IntsAt w' v r.1) ∧ Below w.heap.size w w'

set_option maxHeartbeats 2000000 in
theorem owner_turn (o ids : List Int) (u v : Value) (who y er : Int) (F : Nat) (hF : Enters F) (caps : Array Value) (pm : Int → Bool) (w : World) (ho : IntsAt w u o) (hi : IntsAt w v ids) (hlen : o.length ≤ 100000000)
    (hp : ∀ n W, Below w.heap.size w W → Calls Try.prog F (#[.int .i64 n] ++ caps) W fun e W' => e = .returned (.bool (pm n)) ∧ Below W.heap.size W W') :
    Calls Try.prog 59 #[u, v, .int .i64 who, .int .i64 y, .func (.func F) #[] caps, .int .i64 er] w fun e w' => Turned w (turnR o ids who y er pm) e w' := by
  have hmf : ∀ (fn : Fn) (first cap : Array Value) (w : World), (Instr.makeFunc fn first cap).run Try.prog w = .ok (.func fn first cap) w := fun _ _ _ _ => rfl
  have HP := Lib.hid hp
  clear hp
  obtain ⟨R, hR⟩ : ∃ R, turnR o ids who y er pm = R := ⟨_, rfl⟩
  have HR := Lib.hid hR
  clear hR
  rw [HR.out]
  obtain ⟨a, ca, rfl, _⟩ := id ho
  obtain ⟨b, cb, rfl, _⟩ := id hi
  have hl2 : ids.length ≤ 9223372036854775807 := by obtain ⟨_, _, h, h1, h2, _⟩ := hi; unfold maxLen at h2; omega
  go_enter Try.func59, Try.ntmps59
  go_wp2_with fail
  have q1 := ho.alloc (.cells #[.slice a o.length ca] 42)
  replace q1 := q1.alloc (.cells #[.func (.func F) #[] caps] 58)
  refine (owner_right o _ _ q1).mono ?_
  rintro e w1 ⟨rfl, hb1⟩
  have q2 := (hi.alloc (.cells #[.slice a o.length ca] 42)).alloc (.cells #[.func (.func F) #[] caps] 58)
  have k1 := ((CellIs.new w (.slice a o.length ca) 42).alloc (.cells #[.func (.func F) #[] caps] 58)).below hb1
  have k2 := (CellIs.new2 w (.cells #[.slice a o.length ca] 42) (.func (.func F) #[] caps) 58).below hb1
  replace q1 := q1.below hb1
  replace q2 := q2.below hb1
  have hbel1 : Below w.heap.size w w1 := of_alloc (of_alloc hb1)
  clear ho hi hb1
  cases hro : rightO o with
  | false =>
    have e : R = ([], 0, 1) := by rw [← HR.out]; simp [turnR, hro]
    subst e
    go_wp2
    go_ret3
    exact ⟨⟨_, rfl, IntsAt.nil _⟩, hbel1⟩
  | true =>
    have HRO := Lib.hid hro
    clear hro
    go_wp2_with fail
    refine (owner_arm _ _).mono ?_
    rintro e w' ⟨rfl, rfl⟩
    cases harm : armN who with
    | false =>
      have e : R = ([], 0, 1) := by rw [← HR.out]; simp [turnR, harm]
      subst e
      go_wp2
      go_ret3
      exact ⟨⟨_, rfl, IntsAt.nil _⟩, hbel1⟩
    | true =>
      have HARM := Lib.hid harm
      clear harm
      go_wp2_with fail
      refine (sets_right ids _ _ q2).mono ?_
      rintro e w2 ⟨rfl, hb2⟩
      replace q1 := q1.below hb2
      replace q2 := q2.below hb2
      replace k1 := k1.below hb2
      replace k2 := k2.below hb2
      have hbel2 := bstep hbel1 (Nat.le_refl _) hb2
      clear hb2 hbel1
      cases hri : riseB ids with
      | false =>
        have e : R = ([], 0, 1) := by rw [← HR.out]; simp [turnR, hri]
        subst e
        go_wp2
        go_ret3
        exact ⟨⟨_, rfl, IntsAt.nil _⟩, hbel2⟩
      | true =>
        have HRI := Lib.hid hri
        clear hri
        go_wp2_with fail
        refine (slices_indexFunc 73 (enters Try.func73 (by kernel_rfl) rfl) #[.pointer (some ⟨w.heap.size, 0, none⟩)] (fun id => decide (id < 0) || decide ((o.length : Int) ≤ id)) ids _ _ q2
          (fun j hj W hW => (owner_turn1 _ _ _ _ _ W (by omega) (k1.below hW).2).mono fun e W' h => ⟨h.1, h.2 ▸ Below.refl _ _⟩)).mono ?_
        rintro e w3 ⟨rfl, hb3⟩
        replace q1 := q1.below hb3
        replace q2 := q2.below hb3
        replace k1 := k1.below hb3
        replace k2 := k2.below hb3
        have hbel3 := bstep hbel2 (Nat.le_refl _) hb3
        clear hb3 hbel2
        have HE := Lib.hid (show turnBad o.length ids = firstIdx (fun j => decide (ids.getD j 0 < 0) || decide ((o.length : Int) ≤ ids.getD j 0)) ids.length from rfl)
        rw [← HE.out]
        cases hbad : turnBad o.length ids with
        | some k =>
          have hk := (firstIdx_spec hbad).1
          have e : R = ([], ids.getD k 0, 3) := by rw [← HR.out]; simp only [turnR, HRO.out, HARM.out, HRI.out, hbad]; rfl
          obtain ⟨x, hx⟩ : ∃ x, ids.getD k 0 = x := ⟨_, rfl⟩
          rw [hx] at e
          subst e
          obtain ⟨b1, o1, rfl, hb1, c1⟩ := q2.get hk
          rw [hx] at c1
          have hk0 : (0 : Int) ≤ (k : Int) := by omega
          simp only [idxI]
          clear hx hbad
          go_wp2
          go_quiet (fail)
          go_wp2
          go_ret3
          exact ⟨⟨_, rfl, IntsAt.nil _⟩, below_drewN hbel3 _⟩
        | none =>
          have HIN := Lib.hid (turnBad_none hbad)
          simp only [idxI]
          have HBAD := Lib.hid hbad
          clear hbad
          go_wp2_with fail
          refine (slices_indexFunc 74 (enters Try.func74 (by kernel_rfl) rfl) #[.pointer (some ⟨w.heap.size + 1, 0, none⟩), .pointer (some ⟨w.heap.size, 0, none⟩)] (fun id => !pm (o.getD id.toNat 0)) ids _ _ q2
            (fun j hj W hW => by
              have hr := HIN.out j hj
              obtain ⟨x, hx⟩ : ∃ x : Nat, ids.getD j 0 = x := ⟨(ids.getD j 0).toNat, by omega⟩
              rw [hx] at hr ⊢
              exact owner_turn2 F hF caps pm x _ _ o _ W (q1.below hW) (by omega) (k2.below hW).2 (k1.below hW).2 (fun n W' hW' => HP.out n W' (bstep (bstep hbel3 (Nat.le_refl _) hW) (Nat.le_refl _) hW')))).mono ?_
          rintro e w4 ⟨rfl, hb4⟩
          replace q1 := q1.below hb4
          replace q2 := q2.below hb4
          replace k1 := k1.below hb4
          have hbel4 := bstep hbel3 (Nat.le_refl _) hb4
          clear hb4 hbel3 k2
          have HE2 := Lib.hid (show turnNot o ids pm = firstIdx (fun j => !pm (o.getD (ids.getD j 0).toNat 0)) ids.length from rfl)
          rw [← HE2.out]
          cases hnot : turnNot o ids pm with
          | some k =>
            have hk := (firstIdx_spec hnot).1
            have e : R = ([], ids.getD k 0, er) := by rw [← HR.out]; simp only [turnR, HRO.out, HARM.out, HRI.out, HBAD.out, hnot]; rfl
            obtain ⟨x, hx⟩ : ∃ x, ids.getD k 0 = x := ⟨_, rfl⟩
            rw [hx] at e
            subst e
            obtain ⟨b1, o1, rfl, hb1, c1⟩ := q2.get hk
            rw [hx] at c1
            have hk0 : (0 : Int) ≤ (k : Int) := by omega
            simp only [idxI]
            clear hx hnot
            go_wp2
            go_quiet (fail)
            go_wp2
            go_ret3
            exact ⟨⟨_, rfl, IntsAt.nil _⟩, below_drewN hbel4 _⟩
          | none =>
            have e : R = (setAll o ids y, 0, 0) := by rw [← HR.out]; simp only [turnR, HRO.out, HARM.out, HRI.out, HBAD.out, hnot]; rfl
            have HEND := Lib.hid e
            simp only [idxI]
            clear hnot e
            obtain ⟨kk1, kk2⟩ := k1
            go_wp2_with fail
            refine (slices_clone o _ _ q1 hlen).mono ?_
            rintro e w5 ⟨⟨v5, rfl, hown5⟩, hb5⟩
            have hB5 : w.heap.size ≤ w4.heap.size := hbel4.size
            have hbel5 := bstep hbel4 (Nat.le_refl _) hb5
            have HV := Lib.hid hown5
            have HQ2 := Lib.hid q2
            clear kk1 kk2 q1 q2
            rcases hown5.shape with ⟨rfl, rfl⟩ | ⟨g, cap, rfl, hgB, hgs⟩
            · have h00 : ids = [] := by
                have h0 : ids.length = 0 := by
                  rcases Nat.eq_zero_or_pos ids.length with h | h
                  · exact h
                  · have := HIN.out 0 h
                    simp at this
                    omega
                simpa using h0
              subst h00
              clear hown5
              go_wp2
              refine wp_loop_rounds 1 ?_
              rw [rounds_succ]
              go_wp2
              go_ret3
              rw [HEND.out]
              exact ⟨⟨_, rfl, HV.out.ints⟩, hbel5⟩
            · clear hown5
              go_wp2
              go_loopw [56] (fun i wr => ∃ k : Nat, k ≤ ids.length ∧ i = .int .i64 k ∧ Hid (OwnInts wr w4.heap.size (.slice (some ⟨g, 0, none⟩) o.length cap) (setAll o (ids.take k) y)) ∧ Below w4.heap.size w4 wr) (fun i _ => ids.length - (intOf i).toNat)
              case atStart => exact ⟨0, Nat.zero_le _, rfl, HV.out, hb5⟩
              case round =>
                obtain ⟨k, hk, rfl, HOW, hbelr⟩ := hrel
                clear hbel5 hb5 hgs
                by_cases hlt : k < ids.length
                · obtain ⟨b1, o1, rfl, hb1, c1⟩ := HQ2.out.get hlt
                  rw [← hbelr.cell (p := ⟨b1, _, none⟩) hb1] at c1
                  obtain ⟨hx0, hx1⟩ := HIN.out k hlt
                  obtain ⟨x, hx⟩ : ∃ x : Nat, ids.getD k 0 = x := ⟨(ids.getD k 0).toNat, by omega⟩
                  rw [hx] at c1 hx0 hx1
                  have hS := setAll_snoc o ids y k hlt
                  rw [hx] at hS
                  have HS := Lib.hid hS
                  have hxl : x < o.length := by omega
                  have hlen2 : (setAll o (ids.take k) y).length = o.length := setAll_length _ _ _
                  obtain ⟨L, hL⟩ : ∃ L, setAll o (ids.take k) y = L := ⟨_, rfl⟩
                  rw [hL] at HOW hlen2 HS
                  have HLL := Lib.hid hlen2
                  have hc := OwnInts.cellAt (by rw [← HLL.out] at HOW; exact HOW.out) (j := x) (by omega)
                  have hp := OwnInts.put (by rw [← HLL.out] at HOW; exact HOW.out) x y
                  have HP9 := Lib.hid hp
                  obtain ⟨hc1, hc2⟩ := hc
                  clear hL hx hS hp hlen2 hx0 hx1
                  go_wp2
                  refine ⟨⟨k + 1, hlt, by go_num, ?_, hbelr.setCell hgB _⟩, by simp [intOf]; omega⟩
                  rw [HS.out]
                  have := HP9.out
                  rw [List.length_set, HLL.out] at this
                  exact this
                · go_wp2
                  go_ret3
                  obtain rfl : k = ids.length := by omega
                  rw [List.take_length] at HOW
                  rw [HEND.out]
                  refine ⟨⟨_, rfl, ?_⟩, bstep hbel4 (Nat.le_refl _) hbelr⟩
                  have := HOW.out
                  have e := setAll_length ids y o
                  rw [← e] at this
                  have h2 := OwnInts.ints this
                  rw [e] at h2
                  exact h2

end Go.Proofs.Ytdpinfigjeafpaa
