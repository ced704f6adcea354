/- Walks of package owner, of what it calls of package slices, and of its reference. -/
import Derived.Test.YtacmigimkdiagaaSetTop
namespace Go.Proofs.Ytacmigimkdiagaa
open Go.RowKit
set_option linter.unusedVariables false
set_option linter.unusedSimpArgs false

/-- A place that was looked for, or -1. -/
def idxI (o : Option Nat) : Int := match o with | some k => (k : Int) | none => -1

/-- A function of the program's own text is entered. -/
def Enters (F : Nat) : Prop := ∀ (args : Array Value) (W : World), (callFunc F args).run Try.prog W = .ok (.enter F args) W
theorem enters {F : Nat} {fn : Func} {c : Code} (hf : Try.prog.funcs[F]? = some fn) (hn : (fn.name == "runtime.NumGoroutine") = false) (hb : fn.body = some c) : Enters F := by
  intro args W
  have h1 : fn.name ≠ "runtime.NumGoroutine" := by simpa using hn
  simp [callFunc, hf, h1, hb]

set_option maxHeartbeats 400000 in
theorem slices_indexFunc (F : Nat) (hF : Enters F) (caps : Array Value) (p : Int → Bool) (l : List Int) (v : Value) (w : World) (hl : IntsAt w v l)
    (hp : ∀ j, j < l.length → ∀ W, Below w.heap.size w W → Calls Try.prog F (#[.int .i64 (l.getD j 0)] ++ caps) W fun e W' => e = .returned (.bool (p (l.getD j 0))) ∧ Below W.heap.size W W') :
    Calls Try.prog 62 #[v, .func (.func F) #[] caps] w fun e w' => e = .returned (.int .i64 (idxI (firstIdx (fun j => p (l.getD j 0)) l.length))) ∧ Below w.heap.size w w' := by
  have hcf : ∀ (args : Array Value) (W : World), (callFunc F args).run Try.prog W = .ok (.enter F args) W := hF
  have HL := Lib.hid hl
  have HP := Lib.hid hp
  clear hp
  obtain ⟨a, ca, rfl, hl1, hl2, hl3, hl4⟩ := hl
  clear hl3 hl4
  unfold maxLen at hl2
  go_enter Try.func62, Try.ntmps62
  go_wp2
  go_loopw [8] (fun i wr => ∃ k : Nat, k ≤ l.length ∧ i = .int .i64 k ∧ NoneYet (fun j => p (l.getD j 0)) k ∧ Below w.heap.size w wr) (fun i _ => l.length - (intOf i).toNat)
  case atStart => exact ⟨0, Nat.zero_le _, rfl, NoneYet.zero _, Below.refl _ _⟩
  case round =>
    obtain ⟨k, hk, rfl, hs, hbel⟩ := hrel
    by_cases hlt : k < l.length
    · obtain ⟨b1, o1, rfl, hb1, c1⟩ := HL.out.get hlt
      rw [← hbel.cell (p := ⟨b1, _, none⟩) hb1] at c1
      obtain ⟨x, hx⟩ : ∃ x, l.getD k 0 = x := ⟨_, rfl⟩
      rw [hx] at c1
      have HX := Lib.hid hx
      clear hx
      have HPX := HP.out k hlt
      rw [HX.out] at HPX
      have HC := Lib.hid HPX
      clear HPX
      have HPK : p (l.getD k 0) = p x := by rw [HX.out]
      have HK := Lib.hid HPK
      clear HPK
      go_wp2_with fail
      refine (HC.out _ hbel).mono ?_
      rintro e w1 ⟨rfl, hb⟩
      cases hpx : p x with
      | true =>
        go_wp2
        go_ret
        exact ⟨ret_int (by rw [firstIdx_some hs hlt (by rw [HK.out]; exact hpx)]; rfl), bstep hbel (Nat.le_refl _) hb⟩
      | false =>
        go_wp2
        exact ⟨⟨k + 1, hlt, by go_num, hs.succ (by rw [HK.out]; exact hpx), bstep hbel (Nat.le_refl _) hb⟩, by simp [intOf]; omega⟩
    · go_wp2
      go_ret
      obtain rfl : k = l.length := by omega
      exact ⟨ret_int (by rw [firstIdx_none hs]; rfl), hbel⟩

theorem idxI_nonneg (o : Option Nat) : decide (0 ≤ idxI o) = o.isSome := by
  cases o with
  | none => rfl
  | some k => simp [idxI]

set_option maxHeartbeats 400000 in
theorem slices_containsFunc (F : Nat) (hF : Enters F) (caps : Array Value) (p : Int → Bool) (l : List Int) (v : Value) (w : World) (hl : IntsAt w v l)
    (hp : ∀ j, j < l.length → ∀ W, Below w.heap.size w W → Calls Try.prog F (#[.int .i64 (l.getD j 0)] ++ caps) W fun e W' => e = .returned (.bool (p (l.getD j 0))) ∧ Below W.heap.size W W') :
    Calls Try.prog 53 #[v, .func (.func F) #[] caps] w fun e w' => e = .returned (.bool (firstIdx (fun j => p (l.getD j 0)) l.length).isSome) ∧ Below w.heap.size w w' := by
  have HP := Lib.hid hp
  clear hp
  obtain ⟨q, hq⟩ : ∃ q, idxI (firstIdx (fun j => p (l.getD j 0)) l.length) = q := ⟨_, rfl⟩
  have HQ := Lib.hid hq
  clear hq
  go_enter Try.func53, Try.ntmps53
  go_wp2_with fail
  refine (slices_indexFunc F hF caps p l v w hl HP.out).mono ?_
  rintro e w1 ⟨rfl, hb⟩
  rw [HQ.out]
  go_wp2
  go_ret
  exact ⟨ret_bool (by rw [← idxI_nonneg, HQ.out]), hb⟩

set_option maxHeartbeats 400000 in
theorem slices_clone (l : List Int) (v : Value) (w : World) (hl : IntsAt w v l) (hlen : l.length ≤ 100000000) :
    Calls Try.prog 61 #[v] w fun e w' => (∃ v', e = .returned v' ∧ OwnInts w' w.heap.size v' l) ∧ Below w.heap.size w w' := by
  have HL := Lib.hid hl
  obtain ⟨a, ca, rfl, hl1, hl2, hl3, hl4⟩ := hl
  clear hl4
  unfold maxLen at hl2
  have hnil := @Lib.run_eql_slice_nil Try.prog
  cases a with
  | none =>
    have hca : ca = 0 := hl3 rfl
    subst hca
    have hl0 : l = [] := by simpa using hl1
    subst hl0
    go_enter Try.func61, Try.ntmps61
    go_wp2
    go_ret
    exact ⟨⟨_, rfl, OwnInts.nil _ _⟩, Below.refl _ _⟩
  | some ad =>
    go_enter Try.func61, Try.ntmps61
    go_wp2_with (at_builtin; refine wpList_append_ints rfl (.tmp 5) (.tmp 6) rfl w.heap.size _ [] rfl (own_empty _ _ (Nat.le_refl _)) _ l rfl (HL.out.alloc _) ?_ ?_ ?_)
    · simp
      omega
    · simp
    intro v1 w1 hown1 hg1 hb1
    have HV1 := Lib.hid hown1
    clear hown1 hg1
    go_wp2
    go_ret
    exact ⟨⟨_, rfl, by simpa using HV1.out⟩, ((Below.refl _ _).alloc (Nat.le_refl _) _).trans hb1⟩

/-- An arm's number; whom a thing may belong to; owners that are right. -/
def armN (n : Int) : Bool := decide (1 ≤ n) && decide (n ≤ 8)
def ownB (n : Int) : Bool := n == 0 || armN n
def rightO (l : List Int) : Bool := (firstIdx (fun j => !ownB (l.getD j 0)) l.length).isNone





/-- All of some places set to one number. -/
def setAll (o ids : List Int) (y : Int) : List Int := ids.foldl (fun o id => o.set id.toNat y) o
theorem setAll_length (ids : List Int) (y : Int) : ∀ o : List Int, (setAll o ids y).length = o.length := by
  induction ids with
  | nil => intro o; rfl
  | cons a r ih => intro o; exact (ih _).trans (by simp)
theorem setAll_snoc (o ids : List Int) (y : Int) (k : Nat) (hk : k < ids.length) : setAll o (ids.take (k + 1)) y = (setAll o (ids.take k) y).set (ids.getD k 0).toNat y := by
  unfold setAll
  rw [List.take_succ_eq_append_getElem hk, List.foldl_append]
  simp [hk]
/-- Every id has a place. -/
def InRange (n : Nat) (ids : List Int) : Prop := ∀ j, j < ids.length → 0 ≤ ids.getD j 0 ∧ ids.getD j 0 < n

/-- The shape of an own slice. -/
theorem OwnInts.shape {w : World} {base : Nat} {v : Value} {l : List Int} (h : OwnInts w base v l) : (v = .slice none 0 0 ∧ l = []) ∨ ∃ g cap, v = .slice (some ⟨g, 0, none⟩) l.length cap ∧ base ≤ g ∧ g < w.heap.size := by
  rcases h.2 with ⟨rfl, hn⟩ | ⟨g, cap, cur, rfl, hg, hh, _⟩
  · exact .inl ⟨rfl, by simpa using hn⟩
  · exact .inr ⟨g, cap, rfl, hg, (Array.getElem?_eq_some_iff.1 hh).1⟩
theorem OwnInts.put {w : World} {base g cap : Nat} {l : List Int} (h : OwnInts w base (.slice (some ⟨g, 0, none⟩) l.length cap) l) (j : Nat) (x : Int) :
    OwnInts (w.setCell ⟨g, j, none⟩ (.int .i64 x)) base (.slice (some ⟨g, 0, none⟩) (l.set j x).length cap) (l.set j x) := by
  have h1 := (World.ownsRow.stored h j (.int .i64 x)).1
  unfold OwnInts
  rw [List.map_set, List.length_set]
  exact h1
theorem OwnInts.cellAt {w : World} {base g cap : Nat} {l : List Int} (h : OwnInts w base (.slice (some ⟨g, 0, none⟩) l.length cap) l) {j : Nat} (hj : j < l.length) :
    w.cell? ⟨g, j, none⟩ = some (.int .i64 (l.getD j 0)) ∧ w.frozen? ⟨g, j, none⟩ = false := by
  refine ⟨?_, World.ownsRow.frozenAt h j⟩
  rw [World.ownsRow.cellAt h j (by simpa using hj)]
  simp [hj]




/-- A store into another block, and a later world, for a slice that lies elsewhere. -/
theorem IntsAt.setOther {w : World} {v : Value} {l : List Int} {B g j : Nat} {x : Value} (h : IntsAt w v l) (hge : GeB B v) (hg : g < B) : IntsAt (w.setCell ⟨g, j, none⟩ x) v l := by
  obtain ⟨a, cap, hv, h1, h2, h3, hc⟩ := h
  refine ⟨a, cap, hv, h1, h2, h3, fun hne => ?_⟩
  obtain ⟨b, off, ha, hs, hi⟩ := hc hne
  refine ⟨b, off, ha, by simpa using hs, fun i hil => ?_⟩
  have hbg : g ≠ b := by
    subst hv
    rcases hge with h | ⟨b', o', n', c', h, hb⟩
    · simp only [Value.slice.injEq] at h
      rw [h.1] at ha
      cases ha
    · simp only [Value.slice.injEq] at h
      rw [h.1] at ha
      simp only [Option.some.injEq, Addr.mk.injEq] at ha
      omega
  rw [World.cell?_setCell_far _ _ _ _ hbg]
  exact hi i hil
theorem OwnInts.below {w w' : World} {base : Nat} {v : Value} {l : List Int} (h : OwnInts w base v l) (hb : Below w.heap.size w w') : OwnInts w' base v l := by
  obtain ⟨h1, h2⟩ := h
  refine ⟨h1, ?_⟩
  rcases h2 with h2 | ⟨g, cap, cur, hv, hg, hh, r⟩
  · exact .inl h2
  · exact .inr ⟨g, cap, cur, hv, hg, (hb.block g (Array.getElem?_eq_some_iff.1 hh).1).trans hh, r⟩

end Go.Proofs.Ytacmigimkdiagaa
