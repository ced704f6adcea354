/- Walks of package owner, of what it calls of package slices, and of its reference. -/
import Derived.Test.YtdpinfigjeafpaaSetTop
namespace Go.Proofs.Ytdpinfigjeafpaa
open Go.RowKit
set_option linter.unusedVariables false
set_option linter.unusedSimpArgs false

/-- A place that was looked for, or -1. -/
def idxI (o : Option Nat) : Int := match o with | some k => (k : Int) | none => -1

/-- A function of the program's own text is entered. -/
def Enters (F : Nat) : Prop := ∀ (args : Array Value) (W : World), (callFunc F args).run Try.prog W = .ok (.enter F args) W
theorem enters {F : Nat} {fn : Func} {c : Code} (hf : Try.prog.funcs[F]? = some fn) (hn : (fn.name == "runtime.NumGoroutine") = false) (hb : fn.body = some c) : Enters F := by
  intro args W
  have h1 : fn.name ≠ "runtime.NumGoroutine" := by simpa using hn
  simp [callFunc, hf, h1, hb]

set_option maxHeartbeats 400000 in
theorem slices_indexFunc (F : Nat) (hF : Enters F) (caps : Array Value) (p : Int → Bool) (l : List Int) (v : Value) (w : World) (hl : IntsAt w v l)
    (hp : ∀ j, j < l.length → ∀ W, Below w.heap.size w W → Calls Try.prog F (#[.int .i64 (l.getD j 0)] ++ caps) W fun e W' => e = .returned (.bool (p (l.getD j 0))) ∧ Below W.heap.size W W') :
    Calls Try.prog 72 #[v, .func (.func F) #[] caps] w fun e w' => e = .returned (.int .i64 (idxI (firstIdx (fun j => p (l.getD j 0)) l.length))) ∧ Below w.heap.size w w' := by
  have hcf : ∀ (args : Array Value) (W : World), (callFunc F args).run Try.prog W = .ok (.enter F args) W := hF
  have HL := Lib.hid hl
  have HP := Lib.hid hp
  clear hp
  obtain ⟨a, ca, rfl, hl1, hl2, hl3, hl4⟩ := hl
  clear hl3 hl4
  unfold maxLen at hl2
  go_enter Try.func72, Try.ntmps72
  go_wp2
  go_loopw [8] (fun i wr => ∃ k : Nat, k ≤ l.length ∧ i = .int .i64 k ∧ NoneYet (fun j => p (l.getD j 0)) k ∧ Below w.heap.size w wr) (fun i _ => l.length - (intOf i).toNat)
  case atStart => exact ⟨0, Nat.zero_le _, rfl, NoneYet.zero _, Below.refl _ _⟩
  case round =>
    obtain ⟨k, hk, rfl, hs, hbel⟩ := hrel
    by_cases hlt : k < l.length
    · obtain ⟨b1, o1, rfl, hb1, c1⟩ := HL.out.get hlt
      rw [← hbel.cell (p := ⟨b1, _, none⟩) hb1] at c1
      obtain ⟨x, hx⟩ : ∃ x, l.getD k 0 = x := ⟨_, rfl⟩
      rw [hx] at c1
      have HX := Lib.hid hx
      clear hx
      have HPX := HP.out k hlt
      rw [HX.out] at HPX
      have HC := Lib.hid HPX
      clear HPX
      have HPK : p (l.getD k 0) = p x := by rw [HX.out]
      have HK := Lib.hid HPK
      clear HPK
      go_wp2_with fail
      refine (HC.out _ hbel).mono ?_
      rintro e w1 ⟨rfl, hb⟩
      cases hpx : p x with
      | true =>
        go_wp2
        go_ret
        exact ⟨ret_int (by rw [firstIdx_some hs hlt (by rw [HK.out]; exact hpx)]; rfl), bstep hbel (Nat.le_refl _) hb⟩
      | false =>
        go_wp2
        exact ⟨⟨k + 1, hlt, by go_num, hs.succ (by rw [HK.out]; exact hpx), bstep hbel (Nat.le_refl _) hb⟩, by simp [intOf]; omega⟩
    · go_wp2
      go_ret
      obtain rfl : k = l.length := by omega
      exact ⟨ret_int (by rw [firstIdx_none hs]; rfl), hbel⟩

theorem idxI_nonneg (o : Option Nat) : decide (0 ≤ idxI o) = o.isSome := by
  cases o with
  | none => rfl
  | some k => simp [idxI]

set_option maxHeartbeats 400000 in
theorem slices_containsFunc (F : Nat) (hF : Enters F) (caps : Array Value) (p : Int → Bool) (l : List Int) (v : Value) (w : World) (hl : IntsAt w v l)
    (hp : ∀ j, j < l.length → ∀ W, Below w.heap.size w W → Calls Try.prog F (#[.int .i64 (l.getD j 0)] ++ caps) W fun e W' => e = .returned (.bool (p (l.getD j 0))) ∧ Below W.heap.size W W') :
    Calls Try.prog 63 #[v, .func (.func F) #[] caps] w fun e w' => e = .returned (.bool (firstIdx (fun j => p (l.getD j 0)) l.length).isSome) ∧ Below w.heap.size w w' := by
  have HP := Lib.hid hp
  clear hp
  obtain ⟨q, hq⟩ : ∃ q, idxI (firstIdx (fun j => p (l.getD j 0)) l.length) = q := ⟨_, rfl⟩
  have HQ := Lib.hid hq
  clear hq
  go_enter Try.func63, Try.ntmps63
  go_wp2_with fail
  refine (slices_indexFunc F hF caps p l v w hl HP.out).mono ?_
  rintro e w1 ⟨rfl, hb⟩
  rw [HQ.out]
  go_wp2
  go_ret
  exact ⟨ret_bool (by rw [← idxI_nonneg, HQ.out]), hb⟩

set_option maxHeartbeats 400000 in
theorem slices_clone (l : List Int) (v : Value) (w : World) (hl : IntsAt w v l) (hlen : l.length ≤ 100000000) :
    Calls Try.prog 75 #[v] w fun e w' => (∃ v', e = .returned v' ∧ OwnInts w' w.heap.size v' l) ∧ Below w.heap.size w w' := by
  have HL := Lib.hid hl
  obtain ⟨a, ca, rfl, hl1, hl2, hl3, hl4⟩ := hl
  clear hl4
  unfold maxLen at hl2
  have hnil := @Lib.run_eql_slice_nil Try.prog
  cases a with
  | none =>
    have hca : ca = 0 := hl3 rfl
    subst hca
    have hl0 : l = [] := by simpa using hl1
    subst hl0
    go_enter Try.func75, Try.ntmps75
    go_wp2
    go_ret
    exact ⟨⟨_, rfl, OwnInts.nil _ _⟩, Below.refl _ _⟩
  | some ad =>
    go_enter Try.func75, Try.ntmps75
    go_wp2_with (at_builtin; refine wpList_append_ints rfl (.tmp 5) (.tmp 6) rfl w.heap.size _ [] rfl (own_empty _ _ (Nat.le_refl _)) _ l rfl (HL.out.alloc _) ?_ ?_ ?_)
    · simp
      omega
    · simp
    intro v1 w1 hown1 hg1 hb1
    have HV1 := Lib.hid hown1
    clear hown1 hg1
    go_wp2
    go_ret
    exact ⟨⟨_, rfl, by simpa using HV1.out⟩, ((Below.refl _ _).alloc (Nat.le_refl _) _).trans hb1⟩

/-- An arm's number; whom a thing may belong to; owners that are right. -/
def armN (n : Int) : Bool := decide (1 ≤ n) && decide (n ≤ 8)
def ownB (n : Int) : Bool := n == 0 || armN n
def rightO (l : List Int) : Bool := (firstIdx (fun j => !ownB (l.getD j 0)) l.length).isNone

set_option maxHeartbeats 400000 in
theorem owner_arm (n : Int) (w : World) : Calls Try.prog 65 #[.int .i64 n] w fun e w' => e = .returned (.bool (armN n)) ∧ w = w' := by
  go_enter Try.func65, Try.ntmps65
  go_wp2
  all_goals (go_ret; exact ⟨ret_bool (by simp [armN]; omega), rfl⟩)

set_option maxHeartbeats 400000 in
theorem owner_bad (n : Int) (w : World) : Calls Try.prog 64 #[.int .i64 n] w fun e w' => e = .returned (.bool (!ownB n)) ∧ w = w' := by
  go_enter Try.func64, Try.ntmps64
  go_wp2_with (go_at_call 65; refine (owner_arm _ _).mono ?_; rintro e w' ⟨rfl, rfl⟩)
  all_goals (go_ret; exact ⟨ret_bool (by simp_all [ownB, bne]), rfl⟩)

set_option maxHeartbeats 400000 in
theorem owner_right (l : List Int) (v : Value) (w : World) (hl : IntsAt w v l) : Calls Try.prog 30 #[v] w fun e w' => e = .returned (.bool (rightO l)) ∧ Below w.heap.size w w' := by
  obtain ⟨q, hq⟩ : ∃ q, (firstIdx (fun j => !ownB (l.getD j 0)) l.length).isSome = q := ⟨_, rfl⟩
  have HQ := Lib.hid hq
  clear hq
  go_enter Try.func30, Try.ntmps30
  go_wp2_with fail
  refine (slices_containsFunc 64 (enters Try.func64 (by kernel_rfl) rfl) #[] (fun n => !ownB n) l v w hl (fun j hj W hW => (owner_bad _ W).mono fun e W' h => ⟨h.1, h.2 ▸ Below.refl _ _⟩)).mono ?_
  rintro e w1 ⟨rfl, hb⟩
  rw [HQ.out]
  go_wp2
  go_ret
  exact ⟨ret_bool (by rw [← HQ.out]; unfold rightO; cases firstIdx (fun j => !ownB (l.getD j 0)) l.length <;> rfl), hb⟩

set_option maxHeartbeats 400000 in
theorem ref14_right (l : List Int) (v : Value) (w : World) (hl : IntsAt w v l) : Calls Try.prog 31 #[v] w fun e w' => e = .returned (.bool (rightO l)) ∧ w = w' := by
  have HL := Lib.hid hl
  obtain ⟨a, ca, rfl, hl1, hl2, hl3, hl4⟩ := hl
  clear hl3 hl4
  unfold maxLen at hl2
  go_enter Try.func31, Try.ntmps31
  go_wp2
  go_loop [3] (fun i => ∃ k : Nat, k ≤ l.length ∧ i = .int .i64 k ∧ NoneYet (fun j => !ownB (l.getD j 0)) k) (fun i => l.length - (intOf i).toNat)
  case atStart => exact ⟨0, Nat.zero_le _, rfl, NoneYet.zero _⟩
  case round =>
    obtain ⟨k, hk, rfl, hs⟩ := hrel
    by_cases hlt : k < l.length
    · obtain ⟨b1, o1, rfl, hb1, c1⟩ := HL.out.get hlt
      obtain ⟨x, hx⟩ : ∃ x, l.getD k 0 = x := ⟨_, rfl⟩
      rw [hx] at c1
      have HX := Lib.hid hx
      clear hx
      by_cases hbad : x < 0 ∨ 8 < x
      · have HB := Lib.hid (show (!ownB (l.getD k 0)) = true from by rw [HX.out]; unfold ownB armN; simp; omega)
        by_cases hneg : x < 0
        all_goals
          go_wp2
          go_ret
          exact ⟨ret_bool (by unfold rightO; rw [firstIdx_some hs hlt HB.out]; rfl), rfl⟩
      · have HB := Lib.hid (show (!ownB (l.getD k 0)) = false from by rw [HX.out]; unfold ownB armN; simp; omega)
        go_wp2
        exact ⟨⟨k + 1, hlt, by go_num, hs.succ HB.out⟩, by simp [intOf]; omega⟩
    · go_wp2
      go_ret
      obtain rfl : k = l.length := by omega
      exact ⟨ret_bool (by unfold rightO; rw [firstIdx_none hs]; rfl), rfl⟩

/-- All of some places set to one number. -/
def setAll (o ids : List Int) (y : Int) : List Int := ids.foldl (fun o id => o.set id.toNat y) o
theorem setAll_length (ids : List Int) (y : Int) : ∀ o : List Int, (setAll o ids y).length = o.length := by
  induction ids with
  | nil => intro o; rfl
  | cons a r ih => intro o; exact (ih _).trans (by simp)
theorem setAll_snoc (o ids : List Int) (y : Int) (k : Nat) (hk : k < ids.length) : setAll o (ids.take (k + 1)) y = (setAll o (ids.take k) y).set (ids.getD k 0).toNat y := by
  unfold setAll
  rw [List.take_succ_eq_append_getElem hk, List.foldl_append]
  simp [hk]
/-- Every id has a place. -/
def InRange (n : Nat) (ids : List Int) : Prop := ∀ j, j < ids.length → 0 ≤ ids.getD j 0 ∧ ids.getD j 0 < n

/-- The shape of an own slice. -/
theorem OwnInts.shape {w : World} {base : Nat} {v : Value} {l : List Int} (h : OwnInts w base v l) : (v = .slice none 0 0 ∧ l = []) ∨ ∃ g cap, v = .slice (some ⟨g, 0, none⟩) l.length cap ∧ base ≤ g ∧ g < w.heap.size := by
  rcases h.2 with ⟨rfl, hn⟩ | ⟨g, cap, cur, rfl, hg, hh, _⟩
  · exact .inl ⟨rfl, by simpa using hn⟩
  · exact .inr ⟨g, cap, rfl, hg, (Array.getElem?_eq_some_iff.1 hh).1⟩
theorem OwnInts.put {w : World} {base g cap : Nat} {l : List Int} (h : OwnInts w base (.slice (some ⟨g, 0, none⟩) l.length cap) l) (j : Nat) (x : Int) :
    OwnInts (w.setCell ⟨g, j, none⟩ (.int .i64 x)) base (.slice (some ⟨g, 0, none⟩) (l.set j x).length cap) (l.set j x) := by
  have h1 := (World.ownsRow.stored h j (.int .i64 x)).1
  unfold OwnInts
  rw [List.map_set, List.length_set]
  exact h1
theorem OwnInts.cellAt {w : World} {base g cap : Nat} {l : List Int} (h : OwnInts w base (.slice (some ⟨g, 0, none⟩) l.length cap) l) {j : Nat} (hj : j < l.length) :
    w.cell? ⟨g, j, none⟩ = some (.int .i64 (l.getD j 0)) ∧ w.frozen? ⟨g, j, none⟩ = false := by
  refine ⟨?_, World.ownsRow.frozenAt h j⟩
  rw [World.ownsRow.cellAt h j (by simpa using hj)]
  simp [hj]

set_option maxHeartbeats 800000 in
theorem ref14_with (o ids : List Int) (u v : Value) (y : Int) (w : World) (ho : IntsAt w u o) (hi : IntsAt w v ids) (hr : InRange o.length ids) (hlen : o.length ≤ 100000000) :
    Calls Try.prog 62 #[u, v, .int .i64 y] w fun e w' => GivesInts w (setAll o ids y) e w' := by
  have HO := Lib.hid ho
  have HI := Lib.hid hi
  have HR := Lib.hid hr
  clear ho hr
  obtain ⟨a, ca, rfl, hl1, hl2, hl3, hl4⟩ := hi
  clear hl3 hl4
  unfold maxLen at hl2
  go_enter Try.func62, Try.ntmps62
  go_wp2_with (at_builtin; refine wpList_append_ints rfl (.tmp 9) (.tmp 10) rfl w.heap.size _ [] rfl (own_empty _ _ (Nat.le_refl _)) _ o rfl (HO.out.alloc _) ?_ ?_ ?_)
  · simp
    omega
  · simp
  intro v1 w1 hown1 hg1 hb1
  have hb1' : Below w.heap.size w w1 := ((Below.refl _ _).alloc (Nat.le_refl _) _).trans hb1
  replace hown1 : OwnInts w1 w.heap.size v1 o := hown1
  clear hg1 hb1
  have HV := Lib.hid hown1
  rcases hown1.shape with ⟨rfl, rfl⟩ | ⟨g, cap, rfl, hgB, hgs⟩
  · have h0 : ids.length = 0 := by
      rcases Nat.eq_zero_or_pos ids.length with h | h
      · exact h
      · have := HR.out 0 h
        simp at this
        omega
    have h00 : ids = [] := by simpa using h0
    subst h00
    clear hown1 h0
    go_wp2
    refine wp_loop_rounds 1 ?_
    rw [rounds_succ]
    go_wp2
    go_ret
    exact ⟨⟨_, rfl, HV.out.ints⟩, hb1'⟩
  · clear hown1
    go_wp2
    go_loopw [8] (fun i wr => ∃ k : Nat, k ≤ ids.length ∧ i = .int .i64 k ∧ Hid (OwnInts wr w.heap.size (.slice (some ⟨g, 0, none⟩) o.length cap) (setAll o (ids.take k) y)) ∧ Below w.heap.size w wr) (fun i _ => ids.length - (intOf i).toNat)
    case atStart => exact ⟨0, Nat.zero_le _, rfl, HV.out, hb1'⟩
    case round =>
      obtain ⟨k, hk, rfl, HOW, hbel⟩ := hrel
      clear hb1'
      by_cases hlt : k < ids.length
      · obtain ⟨b1, o1, rfl, hb1, c1⟩ := HI.out.get hlt
        rw [← hbel.cell (p := ⟨b1, _, none⟩) hb1] at c1
        obtain ⟨hx0, hx1⟩ := HR.out k hlt
        obtain ⟨x, hx⟩ : ∃ x : Nat, ids.getD k 0 = x := ⟨(ids.getD k 0).toNat, by omega⟩
        rw [hx] at c1 hx0 hx1
        have hS := setAll_snoc o ids y k hlt
        rw [hx] at hS
        have HS := Lib.hid hS
        have hxl : x < o.length := by omega
        have hlen2 : (setAll o (ids.take k) y).length = o.length := setAll_length _ _ _
        obtain ⟨L, hL⟩ : ∃ L, setAll o (ids.take k) y = L := ⟨_, rfl⟩
        rw [hL] at HOW hlen2 HS
        have HLL := Lib.hid hlen2
        have hc := OwnInts.cellAt (by rw [← HLL.out] at HOW; exact HOW.out) (j := x) (by omega)
        have hp := OwnInts.put (by rw [← HLL.out] at HOW; exact HOW.out) x y
        have HP := Lib.hid hp
        obtain ⟨hc1, hc2⟩ := hc
        clear hL hx hS hp hlen2 hx0 hx1
        go_wp2
        refine ⟨⟨k + 1, hlt, by go_num, ?_, hbel.setCell hgB _⟩, by simp [intOf]; omega⟩
        rw [HS.out]
        have := HP.out
        rw [List.length_set, HLL.out] at this
        exact this
      · go_wp2
        go_ret
        obtain rfl : k = ids.length := by omega
        rw [List.take_length] at HOW
        refine ⟨⟨_, rfl, ?_⟩, hbel⟩
        have := HOW.out
        have e := setAll_length ids y o
        rw [← e] at this
        have h2 := OwnInts.ints this
        rw [e] at h2
        exact h2

set_option maxHeartbeats 400000 in
theorem owner_turn1 (id : Int) (B n cap : Nat) (a : Option Addr) (w : World) (hn : n ≤ 9223372036854775807) (hc : w.cell? ⟨B, 0, none⟩ = some (.slice a n cap)) :
    Calls Try.prog 73 #[.int .i64 id, .pointer (some ⟨B, 0, none⟩)] w fun e w' => e = .returned (.bool (decide (id < 0) || decide ((n : Int) ≤ id))) ∧ w = w' := by
  go_enter Try.func73, Try.ntmps73
  go_wp2
  all_goals (go_ret; exact ⟨ret_bool (by first | (simp; done) | (simp; omega)), rfl⟩)

set_option maxHeartbeats 800000 in
theorem owner_turn2 (F : Nat) (hF : Enters F) (caps : Array Value) (pm : Int → Bool) (x : Nat) (B1 B2 : Nat) (o : List Int) (v : Value) (w : World) (ho : IntsAt w v o) (hx : x < o.length)
    (h1 : w.cell? ⟨B1, 0, none⟩ = some (.func (.func F) #[] caps)) (h2 : w.cell? ⟨B2, 0, none⟩ = some v)
    (hp : ∀ n W, Below w.heap.size w W → Calls Try.prog F (#[.int .i64 n] ++ caps) W fun e W' => e = .returned (.bool (pm n)) ∧ Below W.heap.size W W') :
    Calls Try.prog 74 #[.int .i64 (x : Int), .pointer (some ⟨B1, 0, none⟩), .pointer (some ⟨B2, 0, none⟩)] w fun e w' => e = .returned (.bool (!pm (o.getD x 0))) ∧ Below w.heap.size w w' := by
  have hcf : ∀ (args : Array Value) (W : World), (callFunc F args).run Try.prog W = .ok (.enter F args) W := hF
  have HP := Lib.hid hp
  clear hp
  have hb1 := World.block_lt_of_cell? _ _ h1
  have hb2 := World.block_lt_of_cell? _ _ h2
  simp at hb1 hb2
  obtain ⟨a, ca, rfl, hl1, hl2, hl3, hl4⟩ := id ho
  clear hl3 hl4
  unfold maxLen at hl2
  have HX := Lib.hid hx
  obtain ⟨b3, o3, rfl, hb3, c3⟩ := ho.get hx
  obtain ⟨y, hy⟩ : ∃ y, o.getD x 0 = y := ⟨_, rfl⟩
  rw [hy] at c3
  have HY := Lib.hid hy
  clear hy ho
  have hxi : (0 : Int) ≤ (x : Int) := by omega
  have hxo : x < o.length := HX.out
  go_enter Try.func74, Try.ntmps74
  go_wp2
  go_region_held3 (fun w' => Below w.heap.size w w' ∧ (∀ b o, b < w.heap.size → w'.cell? ⟨b, o, none⟩ = w.cell? ⟨b, o, none⟩) ∧ ∀ b o, b < w.heap.size → w'.frozen? ⟨b, o, none⟩ = w.frozen? ⟨b, o, none⟩)
    (first | exact Keeps.atDraw _ | exact hB)
    ((refine (HP.out _ _ (Keeps.bel (by assumption))).mono ?_; rintro e w1 ⟨rfl, hb⟩; have hB := Keeps.call hb (by assumption)))
  all_goals go_wp2
  all_goals go_ret
  all_goals exact ⟨ret_bool (by rw [HY.out]), hB.1⟩

/-- A store into another block, and a later world, for a slice that lies elsewhere. -/
theorem IntsAt.setOther {w : World} {v : Value} {l : List Int} {B g j : Nat} {x : Value} (h : IntsAt w v l) (hge : GeB B v) (hg : g < B) : IntsAt (w.setCell ⟨g, j, none⟩ x) v l := by
  obtain ⟨a, cap, hv, h1, h2, h3, hc⟩ := h
  refine ⟨a, cap, hv, h1, h2, h3, fun hne => ?_⟩
  obtain ⟨b, off, ha, hs, hi⟩ := hc hne
  refine ⟨b, off, ha, by simpa using hs, fun i hil => ?_⟩
  have hbg : g ≠ b := by
    subst hv
    rcases hge with h | ⟨b', o', n', c', h, hb⟩
    · simp only [Value.slice.injEq] at h
      rw [h.1] at ha
      cases ha
    · simp only [Value.slice.injEq] at h
      rw [h.1] at ha
      simp only [Option.some.injEq, Addr.mk.injEq] at ha
      omega
  rw [World.cell?_setCell_far _ _ _ _ hbg]
  exact hi i hil
theorem OwnInts.below {w w' : World} {base : Nat} {v : Value} {l : List Int} (h : OwnInts w base v l) (hb : Below w.heap.size w w') : OwnInts w' base v l := by
  obtain ⟨h1, h2⟩ := h
  refine ⟨h1, ?_⟩
  rcases h2 with h2 | ⟨g, cap, cur, hv, hg, hh, r⟩
  · exact .inl h2
  · exact .inr ⟨g, cap, cur, hv, hg, (hb.block g (Array.getElem?_eq_some_iff.1 hh).1).trans hh, r⟩

end Go.Proofs.Ytdpinfigjeafpaa
