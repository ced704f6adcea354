/- The walk of plan's phases: may a deed stand here? -/
import Derived.Test.YtacmigimkdiagaaPlanHolds
import Derived.Deep.RegionLaw
namespace Go.Proofs.Ytacmigimkdiagaa
open Go.RowKit
set_option linter.unusedVariables false
set_option linter.unusedSimpArgs false

/-- Is a number above all that is held? -/
def aboveB (L : List Int) (i : Int) : Bool := decide (L.length = 0) || decide (L.getD (L.length - 1) 0 < i)
/-- A deed is done in a phase, or may not be. -/
def mayS (s : Int × List Int) (d : Int × Int) : Option (Int × List Int) :=
  if d.1 = 1 then (if s.1 = 0 ∧ aboveB s.2 d.2 = true then some (0, s.2 ++ [d.2]) else none)
  else if d.1 = 2 then (if s.1 = 0 ∧ d.2 ∈ s.2 then some s else none)
  else if d.1 = 3 then (if s.1 = 0 ∧ d.2 = 0 then some (1, s.2) else none)
  else if d.1 = 4 then (if s.1 = 1 ∧ d.2 ∈ s.2 then some (1, lessL s.2 [d.2]) else none)
  else if d.1 = 5 then (if s.1 = 1 ∧ s.2.length = 0 ∧ d.2 = 0 then some (2, s.2) else none)
  else none

/-- A phase in block B. -/
structure PhaseAt (w : World) (B : Nat) (s : Int × List Int) (v : Value) : Prop where
  c0 : w.cell? ⟨B, 0, none⟩ = some (.int .i64 s.1)
  c1 : w.cell? ⟨B, 1, none⟩ = some v
  f0 : w.frozen? ⟨B, 0, none⟩ = false
  f1 : w.frozen? ⟨B, 1, none⟩ = false
  ints : IntsAt w v s.2
  own : s.1 = 0 → OwnInts w (B + 1) v s.2
theorem PhaseAt.lt {w : World} {B : Nat} {s : Int × List Int} {v : Value} (h : PhaseAt w B s v) : B < w.heap.size := World.block_lt_of_cell? _ _ h.c0
theorem PhaseAt.below {w w' : World} {B : Nat} {s : Int × List Int} {v : Value} (h : PhaseAt w B s v) (hb : Below w.heap.size w w') : PhaseAt w' B s v := by
  have hlt := h.lt
  obtain ⟨h0, h1, h2, h3, h4, h5⟩ := h
  refine ⟨?_, ?_, ?_, ?_, h4.below hb, fun he => ?_⟩
  · rw [hb.cell (p := ⟨B, 0, none⟩) hlt]; exact h0
  · rw [hb.cell (p := ⟨B, 1, none⟩) hlt]; exact h1
  · rw [hb.frozen (p := ⟨B, 0, none⟩) hlt]; exact h2
  · rw [hb.frozen (p := ⟨B, 1, none⟩) hlt]; exact h3
  · have h := h5 he
    exact OwnInts.below h hb
/-- What a call leaves that does a deed. -/
def Mayed (w : World) (B : Nat) (s : Int × List Int) (d : Int × Int) (r : Ending) (w' : World) : Prop :=
  (match mayS s d with
    | some s' => r = .returned (.bool true) ∧ ∃ v, PhaseAt w' B s' v
    | none => r = .returned (.bool false) ∧ ∃ v, PhaseAt w' B s v) ∧ Below B w w'

theorem base_ok {W : World} {o : Obj} {n : Nat} (h : n ≤ W.heap.size) : n ≤ (W.alloc o).drew.heap.size := by
  show n ≤ (W.alloc o).heap.size
  simp
  omega
theorem cell_kept {W w5 : World} {o : Obj} {B j : Nat} {u : Value} (hb : Below (B + 1) (W.alloc o).drew w5) (h : W.cell? ⟨B, j, none⟩ = some u) : w5.cell? ⟨B, j, none⟩ = some u := by
  rw [hb.cell (p := ⟨B, j, none⟩) (Nat.lt_succ_self B)]
  have hlt : B < W.heap.size := World.block_lt_of_cell? _ _ h
  show (W.alloc o).cell? ⟨B, j, none⟩ = _
  rw [World.cell?_alloc_past _ _ _ hlt]
  exact h
theorem frozen_kept {W w5 : World} {o : Obj} {B j : Nat} (hb : Below (B + 1) (W.alloc o).drew w5) (hlt : B < W.heap.size) (h : W.frozen? ⟨B, j, none⟩ = false) : w5.frozen? ⟨B, j, none⟩ = false := by
  rw [hb.frozen (p := ⟨B, j, none⟩) (Nat.lt_succ_self B)]
  show (W.alloc o).frozen? ⟨B, j, none⟩ = _
  rw [World.frozen?_alloc_past _ _ _ hlt]
  exact h

theorem PhaseAt.held {w : World} {B : Nat} {st : Int} {L : List Int} {u v : Value} (c0 : w.cell? ⟨B, 0, none⟩ = some (.int .i64 st)) (c1 : w.cell? ⟨B, 1, none⟩ = some u) (f0 : w.frozen? ⟨B, 0, none⟩ = false) (f1 : w.frozen? ⟨B, 1, none⟩ = false)
    (ho : OwnInts w (B + 1) v L) : PhaseAt (w.setCell ⟨B, 1, none⟩ v) B (st, L) v := by
  have hown := ownsRow_setCell_below ho (a := ⟨B, 1, none⟩) (Nat.lt_succ_self B) v
  refine ⟨?_, ?_, ?_, ?_, OwnInts.ints hown, fun _ => hown⟩
  · go_simp
  · go_simp
  · go_simp
  · go_simp

theorem PhaseAt.gave {w : World} {B : Nat} {L : List Int} {u v : Value} (c0 : w.cell? ⟨B, 0, none⟩ = some (.int .i64 1)) (c1 : w.cell? ⟨B, 1, none⟩ = some u) (f0 : w.frozen? ⟨B, 0, none⟩ = false) (f1 : w.frozen? ⟨B, 1, none⟩ = false)
    (hi : IntsAt w v L) (hg : GeB (B + 1) v) : PhaseAt (w.setCell ⟨B, 1, none⟩ v) B (1, L) v := by
  refine ⟨?_, ?_, ?_, ?_, IntsAt.setOther hi hg (Nat.lt_succ_self B), fun h => by simp at h⟩
  · go_simp
  · go_simp
  · go_simp
  · go_simp

set_option maxHeartbeats 4000000 in
set_option maxRecDepth 100000 in
theorem phases_may (B : Nat) (s : Int × List Int) (v : Value) (d : Int × Int) (w : World) (hp : PhaseAt w B s v) (hr : riseB s.2 = true) (hlen : s.2.length ≤ 10000000) :
    Calls Try.prog 44 #[.pointer (some ⟨B, 0, none⟩), .agg #[.int .i64 d.1, .int .i64 d.2]] w fun r w' => Mayed w B s d r w' := by
  obtain ⟨st, L⟩ := s
  obtain ⟨dk, di⟩ := d
  simp only at hr hlen
  have HR := Lib.hid hr
  have hB := hp.lt
  obtain ⟨a, ca, hv, hl1, hl2, _⟩ := id hp.ints
  obtain ⟨n, hn⟩ : ∃ n, L.length = n := ⟨_, rfl⟩
  simp only at hl1 hv
  rw [hn] at hv hl1 hlen
  have HN := Lib.hid hn
  clear hn
  subst hv
  have HP := Lib.hid hp
  unfold maxLen at hl2
  clear hr hp
  go_enter Try.func44, Try.ntmps44
  go_wp2
  obtain ⟨W0, hW0⟩ : ∃ W0, w.alloc (.cells #[.int .i64 dk, .int .i64 di] 36) = W0 := ⟨_, rfl⟩
  have d0 : W0.cell? ⟨w.heap.size, 0, none⟩ = some (.int .i64 dk) := by rw [← hW0]; simp [go_sem]
  have d1 : W0.cell? ⟨w.heap.size, 1, none⟩ = some (.int .i64 di) := by rw [← hW0]; simp [go_sem]
  have hs0 : w.heap.size < W0.heap.size := by rw [← hW0]; simp
  have hbw : Below w.heap.size w W0 := by rw [← hW0]; exact (Below.refl _ _).alloc (Nat.le_refl _) _
  have HP0 := Lib.hid (HP.out.below hbw)
  rw [hW0]
  clear hW0
  obtain ⟨e0, e1, e2, e3, e4, e5⟩ := id HP0.out
  simp only at e0
  have hBW : B < W0.heap.size := by omega
  have HI := Lib.hid e4
  clear e4 e5
  refine wp_region_lex (fun w' => Below W0.heap.size W0 w' ∧ (∀ b o, b < W0.heap.size → w'.cell? ⟨b, o, none⟩ = W0.cell? ⟨b, o, none⟩) ∧ ∀ b o, b < W0.heap.size → w'.frozen? ⟨b, o, none⟩ = W0.frozen? ⟨b, o, none⟩) (by kernel_rfl) (by kernel_rfl) (Keeps.atDraw _) ?_
  repeat (first
    | (apply Lex.take
       · rfl
       · (intro w' hS; go_simp; first | exact ⟨rfl, hS⟩ | (apply StepsTo.enter; (with_reducible apply Calls.mono (sets_has L _ di _ (HI.out.below hS.1) HR.out)); rintro r w5 ⟨rfl, rfl⟩; exact ⟨rfl, hS⟩))
       simp only [Act.put, List.setIfInBounds_toArray, List.set_cons_zero, List.set_cons_succ]))
  refine Lex.nil ?_
  intro W1 hS
  obtain ⟨hbW, hcW, hfW⟩ := hS
  rw [← hcW _ _ (by omega)] at d0 d1 e0 e1
  rw [← hfW _ _ (by omega)] at e2 e3
  have HP1 := Lib.hid (HP0.out.below hbW)
  have hs1 := hbW.size
  have hbel1 : Below w.heap.size w W1 := hbw.trans (hbW.mono (by omega))
  clear hcW hfW hbW HP0 HI
  have hB1 : Below B w W1 := hbel1.mono (Nat.le_of_lt hB)
  have hBW1 : B < W1.heap.size := by omega
  have hw1 : w.heap.size < W1.heap.size := by omega
  cases h1 : (dk == 1) with
  | true =>
    have hdk : dk = 1 := by simpa using h1
    cases hst : (st != 0) with
    | true =>
      have HMAY := Lib.hid (show mayS (st, L) (dk, di) = none by unfold mayS; simp only; rw [if_pos hdk, if_neg (fun h => absurd h.1 (by simpa using hst))])
      clear hdk
      go_wp2
      refine wp_region_lex (fun w' => Below W1.heap.size W1 w' ∧ (∀ b o, b < W1.heap.size → w'.cell? ⟨b, o, none⟩ = W1.cell? ⟨b, o, none⟩) ∧ ∀ b o, b < W1.heap.size → w'.frozen? ⟨b, o, none⟩ = W1.frozen? ⟨b, o, none⟩) (by kernel_rfl) (by kernel_rfl) (Keeps.atDraw _) ?_
      repeat (first
        | (apply Lex.take
           · rfl
           · (intro w' hS; go_simp; exact ⟨rfl, hS⟩)
           simp only [Act.put, List.setIfInBounds_toArray, List.set_cons_zero, List.set_cons_succ])
        | (apply Lex.leave
           · rfl
           simp only [Act.put, List.setIfInBounds_toArray, List.set_cons_zero, List.set_cons_succ]))
      refine Lex.nil ?_
      intro W2 hS
      obtain ⟨hbW, hcW, hfW⟩ := hS
      go_wp2
      go_ret
      refine ⟨?_, hB1.trans (hbW.mono (by omega))⟩
      rw [HMAY.out]
      exact ⟨rfl, _, HP1.out.below hbW⟩
    | false =>
      have hst0 : st = 0 := by simpa using hst
      rcases Nat.eq_zero_or_pos n with hn0 | hn0
      · subst hn0
        have HMAY := Lib.hid (show mayS (st, L) (dk, di) = some (0, L ++ [di]) by
          unfold mayS aboveB
          simp only
          rw [if_pos hdk, if_pos]
          refine ⟨hst0, ?_⟩
          rw [HN.out]
          rfl)
        have HST0 := Lib.hid hst0
        clear hdk hst0
        go_wp2
        refine wp_region_lex (fun w' => Below W1.heap.size W1 w' ∧ (∀ b o, b < W1.heap.size → w'.cell? ⟨b, o, none⟩ = W1.cell? ⟨b, o, none⟩) ∧ ∀ b o, b < W1.heap.size → w'.frozen? ⟨b, o, none⟩ = W1.frozen? ⟨b, o, none⟩) (by kernel_rfl) (by kernel_rfl) (Keeps.atDraw _) ?_
        repeat (first
          | (apply Lex.take
             · rfl
             · (intro w' hS; go_simp; exact ⟨rfl, hS⟩)
             simp only [Act.put, List.setIfInBounds_toArray, List.set_cons_zero, List.set_cons_succ])
          | (apply Lex.leave
             · rfl
             simp only [Act.put, List.setIfInBounds_toArray, List.set_cons_zero, List.set_cons_succ]))
        refine Lex.nil ?_
        intro W2 hS
        obtain ⟨hbW, hcW, hfW⟩ := hS
        have HP2 := Lib.hid (HP1.out.below hbW)
        rw [← hcW _ _ (by omega)] at d0 d1 e0 e1
        rw [← hfW _ _ (by omega)] at e2 e3
        have hs2 := hbW.size
        have hB2 : Below B w W2 := hB1.trans (hbW.mono (by omega))
        have hBW2 : B < W2.heap.size := by omega
        have HOWN := Lib.hid (HP2.out.own HST0.out)
        clear hcW hfW hbW
        go_wp2
        have hone : [di].length ≤ maxLen := by simp [maxLen]
        have hsum : L.length + [di].length ≤ 1099511627776 := by rw [HN.out, List.length_singleton]; omega
        have HSUM := Lib.hid hsum
        clear hsum
        have hbs : B + 1 ≤ W2.heap.size := hBW2
        go_region_law ((refine step_append_ints rfl (.tmp 49) (.tmp 52) rfl (B + 1) _ L rfl (OwnInts.drew (OwnInts.alloc HOWN.out _)) _ [di] rfl (IntsAt.drew (IntsAt.lit1 _ _)) HSUM.out (base_ok hbs) ?_; intro v1 w5 hown5 hg5 hb5; have c5 := cell_kept hb5 e0; have c6 := cell_kept hb5 e1; have f5 := frozen_kept hb5 hBW2 e2; have f6 := frozen_kept hb5 hBW2 e3; have HO5 := Lib.hid hown5; have HB5 := Lib.hid hb5; obtain ⟨a1, cp1, hv1, hrest⟩ := OwnInts.ints hown5; subst hv1; clear hg5 hrest hown5 hb5))
        all_goals
          go_wp2
          go_ret
          refine ⟨?_, ((hB2.alloc (Nat.le_of_lt hBW2) _).drew.trans (HB5.out.mono (Nat.le_succ B))).setCell (Nat.le_refl B) _⟩
          rw [HMAY.out]
          refine ⟨rfl, .slice a1 (L.length + 1) cp1, ?_⟩
          rw [show Value.slice a1 (L.length + 1) cp1 = Value.slice a1 (L ++ [di]).length cp1 from by simp]
          exact PhaseAt.held (by rw [c5, HST0.out]) c6 f5 f6 HO5.out
      · obtain ⟨m, rfl⟩ : ∃ m, n = m + 1 := ⟨n - 1, by omega⟩
        obtain ⟨b1, o1, rfl, hb1, c1⟩ := HP1.out.ints.get (k := m) (by show m < L.length; rw [HN.out]; omega)
        simp only at c1
        obtain ⟨x, hx⟩ : ∃ x, L.getD m 0 = x := ⟨_, rfl⟩
        rw [hx] at c1
        have HX := Lib.hid hx
        clear hx
        by_cases hge : di ≤ x
        · have HMAY := Lib.hid (show mayS (st, L) (dk, di) = none by
            unfold mayS aboveB
            simp only
            rw [if_pos hdk, if_neg]
            rintro ⟨_, h⟩
            rw [HN.out, Nat.add_sub_cancel, HX.out] at h
            simp at h
            omega)
          clear hdk hst0
          have i0 : (0 : Int) ≤ (m : Int) := by omega
          have i1 : (m : Int) < (m : Int) + 1 := by omega
          have wm : IntKind.i64.wrap (m : Int) = m := IntWalk.i64_in _ (by omega)
          go_wp2
          refine wp_region_lex (fun w' => Below W1.heap.size W1 w' ∧ (∀ b o, b < W1.heap.size → w'.cell? ⟨b, o, none⟩ = W1.cell? ⟨b, o, none⟩) ∧ ∀ b o, b < W1.heap.size → w'.frozen? ⟨b, o, none⟩ = W1.frozen? ⟨b, o, none⟩) (by kernel_rfl) (by kernel_rfl) (Keeps.atDraw _) ?_
          repeat (first
            | (apply Lex.take
               · rfl
               · (intro w' hS; go_simp; exact ⟨rfl, hS⟩)
               simp only [Act.put, List.setIfInBounds_toArray, List.set_cons_zero, List.set_cons_succ])
            | (apply Lex.leave
               · rfl
               simp only [Act.put, List.setIfInBounds_toArray, List.set_cons_zero, List.set_cons_succ]))
          refine Lex.nil ?_
          intro W2 hS
          obtain ⟨hbW, hcW, hfW⟩ := hS
          clear wm
          go_wp2
          go_ret
          refine ⟨?_, hB1.trans (hbW.mono (by omega))⟩
          rw [HMAY.out]
          exact ⟨rfl, _, HP1.out.below hbW⟩
        · have HMAY := Lib.hid (show mayS (st, L) (dk, di) = some (0, L ++ [di]) by
            unfold mayS aboveB
            simp only
            rw [if_pos hdk, if_pos]
            refine ⟨hst0, ?_⟩
            rw [HN.out, Nat.add_sub_cancel, HX.out]
            simp
            omega)
          have HST0 := Lib.hid hst0
          clear hdk hst0
          have i0 : (0 : Int) ≤ (m : Int) := by omega
          have i1 : (m : Int) < (m : Int) + 1 := by omega
          have wm : IntKind.i64.wrap (m : Int) = m := IntWalk.i64_in _ (by omega)
          go_wp2
          refine wp_region_lex (fun w' => Below W1.heap.size W1 w' ∧ (∀ b o, b < W1.heap.size → w'.cell? ⟨b, o, none⟩ = W1.cell? ⟨b, o, none⟩) ∧ ∀ b o, b < W1.heap.size → w'.frozen? ⟨b, o, none⟩ = W1.frozen? ⟨b, o, none⟩) (by kernel_rfl) (by kernel_rfl) (Keeps.atDraw _) ?_
          repeat (first
            | (apply Lex.take
               · rfl
               · (intro w' hS; go_simp; exact ⟨rfl, hS⟩)
               simp only [Act.put, List.setIfInBounds_toArray, List.set_cons_zero, List.set_cons_succ])
            | (apply Lex.leave
               · rfl
               simp only [Act.put, List.setIfInBounds_toArray, List.set_cons_zero, List.set_cons_succ]))
          refine Lex.nil ?_
          intro W2 hS
          obtain ⟨hbW, hcW, hfW⟩ := hS
          clear wm
          have HP2 := Lib.hid (HP1.out.below hbW)
          rw [← hcW _ _ (by omega)] at d0 d1 e0 e1
          rw [← hfW _ _ (by omega)] at e2 e3
          have hs2 := hbW.size
          have hB2 : Below B w W2 := hB1.trans (hbW.mono (by omega))
          have hBW2 : B < W2.heap.size := by omega
          have HOWN := Lib.hid (HP2.out.own HST0.out)
          clear hcW hfW hbW
          go_wp2
          have hone : [di].length ≤ maxLen := by simp [maxLen]
          have hsum : L.length + [di].length ≤ 1099511627776 := by rw [HN.out, List.length_singleton]; omega
          have HSUM := Lib.hid hsum
          clear hsum
          have hbs : B + 1 ≤ W2.heap.size := hBW2
          go_region_law ((refine step_append_ints rfl (.tmp 49) (.tmp 52) rfl (B + 1) _ L rfl (OwnInts.drew (OwnInts.alloc HOWN.out _)) _ [di] rfl (IntsAt.drew (IntsAt.lit1 _ _)) HSUM.out (base_ok hbs) ?_; intro v1 w5 hown5 hg5 hb5; have c5 := cell_kept hb5 e0; have c6 := cell_kept hb5 e1; have f5 := frozen_kept hb5 hBW2 e2; have f6 := frozen_kept hb5 hBW2 e3; have HO5 := Lib.hid hown5; have HB5 := Lib.hid hb5; obtain ⟨a1, cp1, hv1, hrest⟩ := OwnInts.ints hown5; subst hv1; clear hg5 hrest hown5 hb5))
          all_goals
            go_wp2
            go_ret
            refine ⟨?_, ((hB2.alloc (Nat.le_of_lt hBW2) _).drew.trans (HB5.out.mono (Nat.le_succ B))).setCell (Nat.le_refl B) _⟩
            rw [HMAY.out]
            refine ⟨rfl, .slice a1 (L.length + 1) cp1, ?_⟩
            rw [show Value.slice a1 (L.length + 1) cp1 = Value.slice a1 (L ++ [di]).length cp1 from by simp]
            exact PhaseAt.held (by rw [c5, HST0.out]) c6 f5 f6 HO5.out
  | false =>
    cases h2 : (dk == 2) with
    | true =>
      cases hst : (st == 0) with
      | true =>
        cases hin : decide (di ∈ L) with
        | true =>
          have HMAY := Lib.hid (show mayS (st, L) (dk, di) = some (st, L) by unfold mayS; simp only; rw [if_neg (show ¬ dk = 1 by simpa using h1), if_pos (show dk = 2 by simpa using h2), if_pos ⟨by simpa using hst, by simpa using hin⟩])
          go_wp2
          go_ret
          refine ⟨?_, hB1⟩
          rw [HMAY.out]
          exact ⟨rfl, _, HP1.out⟩
        | false =>
          have HMAY := Lib.hid (show mayS (st, L) (dk, di) = none by unfold mayS; simp only; rw [if_neg (show ¬ dk = 1 by simpa using h1), if_pos (show dk = 2 by simpa using h2), if_neg (fun h => absurd h.2 (by simpa using hin))])
          go_wp2
          go_ret
          refine ⟨?_, hB1⟩
          rw [HMAY.out]
          exact ⟨rfl, _, HP1.out⟩
      | false =>
        have HMAY := Lib.hid (show mayS (st, L) (dk, di) = none by unfold mayS; simp only; rw [if_neg (show ¬ dk = 1 by simpa using h1), if_pos (show dk = 2 by simpa using h2), if_neg (fun h => absurd h.1 (by simpa using hst))])
        go_wp2
        go_ret
        refine ⟨?_, hB1⟩
        rw [HMAY.out]
        exact ⟨rfl, _, HP1.out⟩
    | false =>
      cases h3 : (dk == 3) with
      | true =>
        have p3 : dk = 3 := by simpa using h3
        have P3 := Lib.hid p3
        clear p3
        cases hst : (st != 0) with
        | true =>
          have HMAY := Lib.hid (show mayS (st, L) (dk, di) = none by unfold mayS; simp only; rw [if_neg (show ¬ dk = 1 by simpa using h1), if_neg (show ¬ dk = 2 by simpa using h2), if_pos P3.out, if_neg (fun h => absurd h.1 (by simpa using hst))])
          go_wp2
          go_ret
          refine ⟨?_, hB1⟩
          rw [HMAY.out]
          exact ⟨rfl, _, HP1.out⟩
        | false =>
          cases hdi : (di != 0) with
          | true =>
            have HMAY := Lib.hid (show mayS (st, L) (dk, di) = none by unfold mayS; simp only; rw [if_neg (show ¬ dk = 1 by simpa using h1), if_neg (show ¬ dk = 2 by simpa using h2), if_pos P3.out, if_neg (fun h => absurd h.2 (by simpa using hdi))])
            go_wp2
            go_ret
            refine ⟨?_, hB1⟩
            rw [HMAY.out]
            exact ⟨rfl, _, HP1.out⟩
          | false =>
            have HMAY := Lib.hid (show mayS (st, L) (dk, di) = some (1, L) by unfold mayS; simp only; rw [if_neg (show ¬ dk = 1 by simpa using h1), if_neg (show ¬ dk = 2 by simpa using h2), if_pos P3.out, if_pos ⟨by simpa using hst, by simpa using hdi⟩])
            have HOWN := Lib.hid (HP1.out.own (by simpa using hst))
            go_wp2
            go_ret
            refine ⟨?_, hB1.setCell (Nat.le_refl B) _⟩
            rw [HMAY.out]
            refine ⟨rfl, .slice a n ca, ?_⟩
            exact ⟨by go_simp, by go_simp, by go_simp, by go_simp, OwnInts.ints (ownsRow_setCell_below HOWN.out (a := ⟨B, 0, none⟩) (Nat.lt_succ_self B) _), fun h => by simp at h⟩
      | false =>
        cases h4 : (dk == 4) with
        | true =>
          have p4 : dk = 4 := by simpa using h4
          have P4 := Lib.hid p4
          clear p4
          cases hst : (st != 1) with
          | true =>
            have HMAY := Lib.hid (show mayS (st, L) (dk, di) = none by unfold mayS; simp only; rw [if_neg (show ¬ dk = 1 by simpa using h1), if_neg (show ¬ dk = 2 by simpa using h2), if_neg (show ¬ dk = 3 by simpa using h3), if_pos P4.out, if_neg (fun h => absurd h.1 (by simpa using hst))])
            go_wp2
            go_ret
            refine ⟨?_, hB1⟩
            rw [HMAY.out]
            exact ⟨rfl, _, HP1.out⟩
          | false =>
            cases hin : decide (di ∈ L) with
            | false =>
              have HMAY := Lib.hid (show mayS (st, L) (dk, di) = none by unfold mayS; simp only; rw [if_neg (show ¬ dk = 1 by simpa using h1), if_neg (show ¬ dk = 2 by simpa using h2), if_neg (show ¬ dk = 3 by simpa using h3), if_pos P4.out, if_neg (fun h => absurd h.2 (by simpa using hin))])
              go_wp2
              go_ret
              refine ⟨?_, hB1⟩
              rw [HMAY.out]
              exact ⟨rfl, _, HP1.out⟩
            | true =>
              have HMAY := Lib.hid (show mayS (st, L) (dk, di) = some (1, lessL L [di]) by unfold mayS; simp only; rw [if_neg (show ¬ dk = 1 by simpa using h1), if_neg (show ¬ dk = 2 by simpa using h2), if_neg (show ¬ dk = 3 by simpa using h3), if_pos P4.out, if_pos ⟨by simpa using hst, by simpa using hin⟩])
              have HST1 : Hid (st = 1) := by simpa [Hid] using hst
              have HI := Lib.hid HP1.out.ints
              have HLEN := Lib.hid (show L.length ≤ 100000000 by rw [HN.out]; omega)
              have h1m : [di].length ≤ 100000000 := by simp
              have hs1' : B + 1 ≤ W1.heap.size := hBW1
              go_wp2
              go_region_with ((go_at_call 47; refine (sets_less_ge L [di] _ _ _ (IntsAt.drew (IntsAt.alloc HI.out _)) (IntsAt.drew (IntsAt.lit1 _ _)) HLEN.out h1m HR.out rfl).mono ?_; rintro r w5 ⟨⟨v5, rfl, i5, g5⟩, hb5⟩; have hbd : Below (B + 1) (W1.alloc (.cells #[.int .i64 di] 3)).drew w5 := hb5.mono (base_ok hs1'); have c5 := cell_kept hbd e0; have c6 := cell_kept hbd e1; have f5 := frozen_kept hbd hBW1 e2; have f6 := frozen_kept hbd hBW1 e3; have HI5 := Lib.hid i5; have HG5 := Lib.hid (g5.mono (base_ok hs1')); have HB5 := Lib.hid hbd; obtain ⟨a1, cp1, hv1, hrest⟩ := i5; subst hv1; clear hrest hb5 hbd g5))
              all_goals
                go_wp2
                go_ret
                refine ⟨?_, ((hB1.alloc (Nat.le_of_lt hBW1) _).drew.trans (HB5.out.mono (Nat.le_succ B))).setCell (Nat.le_refl B) _⟩
                rw [HMAY.out]
                refine ⟨rfl, .slice a1 (lessL L [di]).length cp1, ?_⟩
                exact PhaseAt.gave (by rw [c5, HST1.out]) c6 f5 f6 HI5.out HG5.out
        | false =>
          cases h5 : (dk == 5) with
          | true =>
            have p5 : dk = 5 := by simpa using h5
            have P5 := Lib.hid p5
            clear p5
            cases hst : (st != 1) with
            | true =>
              have HMAY := Lib.hid (show mayS (st, L) (dk, di) = none by unfold mayS; simp only; rw [if_neg (show ¬ dk = 1 by simpa using h1), if_neg (show ¬ dk = 2 by simpa using h2), if_neg (show ¬ dk = 3 by simpa using h3), if_neg (show ¬ dk = 4 by simpa using h4), if_pos P5.out, if_neg (fun h => absurd h.1 (by simpa using hst))])
              go_wp2
              go_ret
              refine ⟨?_, hB1⟩
              rw [HMAY.out]
              exact ⟨rfl, _, HP1.out⟩
            | false =>
              by_cases hn0 : 0 < n
              · have HMAY := Lib.hid (show mayS (st, L) (dk, di) = none by
                  unfold mayS
                  simp only
                  rw [if_neg (show ¬ dk = 1 by simpa using h1), if_neg (show ¬ dk = 2 by simpa using h2), if_neg (show ¬ dk = 3 by simpa using h3), if_neg (show ¬ dk = 4 by simpa using h4), if_pos P5.out, if_neg]
                  rintro ⟨_, h, _⟩
                  rw [HN.out] at h
                  omega)
                go_wp2
                go_ret
                refine ⟨?_, hB1⟩
                rw [HMAY.out]
                exact ⟨rfl, _, HP1.out⟩
              · cases hdi : (di != 0) with
                | true =>
                  have HMAY := Lib.hid (show mayS (st, L) (dk, di) = none by unfold mayS; simp only; rw [if_neg (show ¬ dk = 1 by simpa using h1), if_neg (show ¬ dk = 2 by simpa using h2), if_neg (show ¬ dk = 3 by simpa using h3), if_neg (show ¬ dk = 4 by simpa using h4), if_pos P5.out, if_neg (fun h => absurd h.2.2 (by simpa using hdi))])
                  go_wp2
                  go_ret
                  refine ⟨?_, hB1⟩
                  rw [HMAY.out]
                  exact ⟨rfl, _, HP1.out⟩
                | false =>
                  have HMAY := Lib.hid (show mayS (st, L) (dk, di) = some (2, L) by
                    unfold mayS
                    simp only
                    rw [if_neg (show ¬ dk = 1 by simpa using h1), if_neg (show ¬ dk = 2 by simpa using h2), if_neg (show ¬ dk = 3 by simpa using h3), if_neg (show ¬ dk = 4 by simpa using h4), if_pos P5.out, if_pos]
                    exact ⟨by simpa using hst, by rw [HN.out]; omega, by simpa using hdi⟩)
                  go_wp2
                  go_ret
                  refine ⟨?_, hB1.setCell (Nat.le_refl B) _⟩
                  rw [HMAY.out]
                  refine ⟨rfl, .slice a n ca, ?_⟩
                  have hL : L = [] := List.length_eq_zero_iff.1 (by rw [HN.out]; omega)
                  refine ⟨by go_simp, by go_simp, by go_simp, by go_simp, ?_, fun h => by simp at h⟩
                  obtain ⟨x1, x2, x3, x4, x5, x6, _⟩ := HP1.out.ints
                  exact ⟨x1, x2, x3, x4, x5, x6, fun h => absurd hL h⟩
          | false =>
            have HMAY := Lib.hid (show mayS (st, L) (dk, di) = none by unfold mayS; simp only; rw [if_neg (show ¬ dk = 1 by simpa using h1), if_neg (show ¬ dk = 2 by simpa using h2), if_neg (show ¬ dk = 3 by simpa using h3), if_neg (show ¬ dk = 4 by simpa using h4), if_neg (show ¬ dk = 5 by simpa using h5)])
            go_wp2
            go_ret
            refine ⟨?_, hB1⟩
            rw [HMAY.out]
            exact ⟨rfl, _, HP1.out⟩

end Go.Proofs.Ytacmigimkdiagaa
