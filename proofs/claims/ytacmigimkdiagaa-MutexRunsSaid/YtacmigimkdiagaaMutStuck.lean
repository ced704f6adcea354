/- Walks of package mutex: who is stuck. -/
import Derived.Test.YtacmigimkdiagaaMutLeast
namespace Go.Proofs.Ytacmigimkdiagaa
open Go.RowKit
set_option linter.unusedVariables false
set_option linter.unusedSimpArgs false

/-- The elements of two arrays at these places, held against each other. -/
def eqElems (d : Nat) (e : TypeId) (n : Nat) (xs ys : Array Value) : List Nat → Sem Bool
  | [] => pure true
  | i :: is => do
    let a ← part e xs (i * n)
    let b ← part e ys (i * n)
    let r ← Op.equalIn d e a b
    if (!r) = true then pure false else eqElems d e n xs ys is
theorem run_equalIn_array (w : World) (d len n : Nat) (t e : TypeId) (xs ys : Array Value) (ht : Try.prog.underlying t = some (.array len e)) (hs : ∀ w, (sizeOf e).run Try.prog w = .ok n w) :
    (Op.equalIn (d + 1) t (.agg xs) (.agg ys)).run Try.prog w = (eqElems d e n xs ys (List.range' 0 len)).run Try.prog w := by
  simp only [Op.equalIn, Sem.run_bind, run_underlying ht, Result.andThen_ok, hs]
  simp only [Std.Legacy.Range.forIn_eq_forIn_range', Std.Legacy.Range.size, Nat.sub_zero, Nat.add_one_sub_one, Nat.div_one]
  generalize List.range' 0 len 1 = fs
  clear ht
  induction fs generalizing w with
  | nil => simp [eqElems]
  | cons f fs ih =>
    simp only [List.forIn_cons, eqElems, Sem.run_bind, Sem.run_ite]
    generalize (part e xs (f * n)).run Try.prog w = r1
    cases r1 with
    | ok a w1 =>
      simp only [Result.andThen_ok]
      generalize (part e ys (f * n)).run Try.prog w1 = r2
      cases r2 with
      | ok b w2 =>
        simp only [Result.andThen_ok]
        generalize (Op.equalIn d e a b).run Try.prog w2 = r3
        cases r3 with
        | ok r w3 =>
          cases r
          · simp only [Result.andThen_ok, Bool.not_false, if_true, Sem.run_pure]
          · simp only [Result.andThen_ok, Bool.not_true, Bool.false_eq_true, if_false, Sem.run_pure]
            exact ih w3
        | halt x w3 => simp [Result.andThen]
      | halt x w2 => simp [Result.andThen]
    | halt x w1 => simp [Result.andThen]

/-- Nine flags held against nine. -/
theorem flags_eq_run (bs cs : List Bool) (hb : bs.length = 9) (hc : cs.length = 9) (w : World) :
    (Op.equalIn 10000 65 (flagsV bs) (flagsV cs)).run Try.prog w = .ok (bs == cs) w := by
  have h3 : Try.prog.underlying 65 = some (.array 9 4) := by kernel_rfl
  have hs : ∀ w, (sizeOf 4).run Try.prog w = .ok 1 w := fun w => by go_simp
  have u := Try.underlying4
  rw [show (10000 : Nat) = 9999 + 1 from rfl, run_equalIn_array w 9999 9 1 _ _ _ _ h3 hs]
  have hp : ∀ (l : List Bool) (i : Nat) (w : World), i < l.length → (part 4 (l.map Value.bool).toArray (i * 1)).run Try.prog w = .ok (.bool (l.getD i false)) w := by
    intro l i w hi
    go_simp
  have hall : ∀ (m i : Nat), i + m ≤ 9 → (eqElems 9999 4 1 (bs.map Value.bool).toArray (cs.map Value.bool).toArray (List.range' i m)).run Try.prog w = .ok ((List.range' i m).all fun j => bs.getD j false == cs.getD j false) w := by
    intro m
    induction m with
    | zero => intro i _; rfl
    | succ m ih =>
      intro i hi
      rw [List.range'_succ, List.all_cons]
      simp only [eqElems, Sem.run_bind]
      rw [hp bs i w (by omega), Result.andThen_ok, hp cs i w (by omega), Result.andThen_ok, run_equalIn_bool' w 9998 _ _ _ u, Result.andThen_ok, Sem.run_ite, ih (i + 1) (by omega)]
      cases bs.getD i false == cs.getD i false <;> simp
  rw [hall 9 0 (by omega)]
  congr 1
  rw [Bool.eq_iff_iff, List.all_eq_true, beq_iff_eq]
  constructor
  · intro h
    exact ext9 hb hc fun i hi => by simpa using h i (by simp; omega)
  · rintro rfl i _
    simp
@[go_sem high] theorem flags_neq (bs cs : List Bool) (hb : bs.length = 9) (hc : cs.length = 9) (w : World) : (binOp .neq 65 (flagsV bs) (flagsV cs)).run Try.prog w = .ok (.bool (!(bs == cs))) w := by
  rw [run_neq_struct, flags_eq_run bs cs hb hc]
  rfl

theorem stuckOf_rise (F : List Bool) : riseB (stuckOf F) = true := by
  rw [rise_pairwise]
  unfold stuckOf stuckN
  refine List.Pairwise.map _ (fun a b h => ?_) (List.Pairwise.filter _ (List.pairwise_lt_range))
  exact Int.ofNat_lt.2 h
theorem from_stuck (F : List Bool) : fromL (stuckOf F) = stuckOf F := rise_ext (fromL_rise _) (stuckOf_rise F) fun x => mem_fromL _ _

/-- What a call gives that tells who is stuck. -/
def GivesStuck (t ws : List Int) (w : World) (e : Ending) (w' : World) : Prop :=
  if rightO t = true ∧ ws.length ≤ 8 then ∃ F, Least t ws F ∧ GivesInts w (stuckOf F) e w' else GivesInts w [] e w'

theorem onT_length (t ws : List Int) (bs : List Bool) : (onT t ws bs).length = 9 := onN_length _ _ _ _
theorem mutex_on' (t ws : List Int) (u v : Value) (bs : List Bool) (w : World) (ht : IntsAt w u t) (hw : IntsAt w v ws) (hr : rightO t = true) (hl : ws.length ≤ 8) (hb : bs.length = 9) :
    Calls Try.prog 55 #[u, v, flagsV bs] w fun e w' => e = .returned (flagsV (onT t ws bs)) ∧ Below w.heap.size w w' := by
  match bs, hb with
  | [b0, b1, b2, b3, b4, b5, b6, b7, b8], _ => exact mutex_on t ws u v b0 b1 b2 b3 b4 b5 b6 b7 b8 w ht hw hr hl
theorem step_of {P : Program} {ops : Array Oper} {o : Oper} {a : Act} {w : World} {K : Act → World → Prop} {Q : Exit → Act → World → Prop} {E : Prop} (hg : o.guard = none) (h : Oper.wp P o a w K Q) :
    if Region.wanted o (yielded ops a.tmps) = true then Oper.wp P o a w K Q else E := by
  have hw : Region.wanted o (yielded ops a.tmps) = true := by simp [Region.wanted, hg]
  rw [if_pos hw]
  exact h
theorem below_drew' {B : Nat} {w w' : World} (h : Below B w w') : Below B w w'.drew := h.drew
theorem stay {w w' : World} {B : Nat} {F : List Bool} (hb : Below w.drew.heap.size w.drew w') (h : FlagsAt w B F) : FlagsAt w' B F := (hb.block B h.lt).trans h
theorem row_other {w : World} {B C : Nat} {F : List Bool} {cs : Array Value} (h : FlagsAt w B F) (hne : B ≠ C) : FlagsAt (w.setRow C cs) B F := (setRow_other w C B cs hne).trans h

/-- What holds at a round's head: who got on before, and who does now. -/
def StuckAt (w : World) (t ws : List Int) (B5 B6 g : Nat) (wr : World) : Prop :=
  ∃ F, Below9 t ws F ∧ offN F ≤ g ∧ FlagsAt wr B5 F ∧ FlagsAt wr B6 (onT t ws F) ∧ Below w.heap.size w wr
theorem stuck_next {w w2 : World} {t ws : List Int} {B5 B6 : Nat} {F L : List Bool} (hF : Below9 t ws F) (hL : onT t ws F = L) (h5 : w.heap.size ≤ B5) (h6 : B5 < B6) (f5 : FlagsAt w2 B5 F) (f6 : FlagsAt w2 B6 L) (hb : Below w.heap.size w w2) :
    StuckAt w t ws B5 B6 (offN L) ((w2.setRow B5 (L.map Value.bool).toArray).setRow B6 ((onT t ws L).map Value.bool).toArray) := by
  refine ⟨L, hL ▸ hF.on, Nat.le_refl _, ?_, ?_, below_setRow (below_setRow hb h5 _) (by omega) _⟩
  · exact row_other (setRow_heap _ _ _ _ _ _ f5) (by omega)
  · exact setRow_heap _ _ _ _ _ _ (row_other f6 (by omega))
theorem stuck_less {t ws : List Int} {F L : List Bool} (hF : Below9 t ws F) (hL : onT t ws F = L) (he : (L == F) = false) : offN L < offN F := by
  subst hL
  exact offN_lt hF.1 (onN_length _ _ _ _) (onT_within t ws hF.1) (by simpa using he)

set_option maxHeartbeats 3200000 in
theorem mutex_Stuck (t ws : List Int) (u v : Value) (w : World) (ht : IntsAt w u t) (hw : IntsAt w v ws) :
    Calls Try.prog 35 #[u, v] w fun e w' => GivesStuck t ws w e w' := by
  have HT := Lib.hid ht
  have HW := Lib.hid hw
  obtain ⟨a, ca, rfl, hl1, hl2, hl3, hl4⟩ := ht
  obtain ⟨a', ca', rfl, hl1', hl2', hl3', hl4'⟩ := hw
  clear hl3 hl4 hl3' hl4'
  unfold maxLen at hl2 hl2'
  cases hr : rightO t with
  | false =>
    have HR := Lib.hid hr
    go_enter Try.func35, Try.ntmps35
    go_wp2_with fail
    refine (mutex_right t _ _ HT.out).mono ?_
    rintro e w1 ⟨rfl, hb1⟩
    rw [hr]
    clear hr
    go_wp2
    go_ret
    unfold GivesStuck
    rw [if_neg (fun h => by have := h.1; rw [HR.out] at this; cases this)]
    exact ⟨⟨_, rfl, IntsAt.nil _⟩, hb1⟩
  | true =>
    by_cases hlen : ws.length ≤ 8
    · have HR := Lib.hid hr
      go_enter Try.func35, Try.ntmps35
      go_wp2_with fail
      refine (mutex_right t _ _ HT.out).mono ?_
      rintro e w1 ⟨rfl, hb1⟩
      rw [hr]
      clear hr
      go_wp2_with fail
      refine (mutex_on t ws _ _ false false false false false false false false false _ ((HT.out.below hb1).alloc _) ((HW.out.below hb1).alloc _) HR.out hlen).mono ?_
      rintro e w2 ⟨rfl, hb2⟩
      obtain ⟨L, hL⟩ : ∃ L, onT t ws [false, false, false, false, false, false, false, false, false] = L := ⟨_, rfl⟩
      rw [hL]
      have HLN := Lib.hid (show L.length = 9 by rw [← hL]; exact onN_length _ _ _ _)
      have HL := Lib.hid hL
      clear hL
      have hn := heap_alloc_new w2 (.cells #[.bool false, .bool false, .bool false, .bool false, .bool false, .bool false, .bool false, .bool false, .bool false] 65)
      have HN := Lib.hid hn
      clear hn
      go_wp2_with (refine wpList_store_row rfl 65 (.tmp 6) (.tmp 20) rfl w2.heap.size (L.map Value.bool).toArray rfl rfl _ _ HN.out ?_ ?_ ?_ ?_)
      · rw [infoArms]
        simp [HLN.out]
      · simp [HLN.out]
      · simp [Value.oneCell']
      have hs1 : w1.heap.size + 1 ≤ w2.heap.size := by have := hb2.size; simpa using this
      have hs0 : w.heap.size ≤ w1.heap.size := hb1.size
      have g5 : FlagsAt ((w2.alloc (.cells #[.bool false, .bool false, .bool false, .bool false, .bool false, .bool false, .bool false, .bool false, .bool false] 65)).setRow w2.heap.size (List.map Value.bool L).toArray) w1.heap.size (List.replicate 9 false) := by
        unfold FlagsAt
        rw [setRow_other _ _ _ _ (by omega), Below.heap_alloc _ _ _ (by omega), hb2.block _ (by simp)]
        exact heap_alloc_new w1 _
      have g6 : FlagsAt ((w2.alloc (.cells #[.bool false, .bool false, .bool false, .bool false, .bool false, .bool false, .bool false, .bool false, .bool false] 65)).setRow w2.heap.size (List.map Value.bool L).toArray) w2.heap.size L :=
        setRow_heap _ _ _ _ _ _ HN.out
      have hb3 : Below w.heap.size w ((w2.alloc (.cells #[.bool false, .bool false, .bool false, .bool false, .bool false, .bool false, .bool false, .bool false, .bool false] 65)).setRow w2.heap.size (List.map Value.bool L).toArray) :=
        below_setRow ((((hb1.alloc hs0 _).trans (hb2.mono (by simp; omega)))).alloc (by omega) _) (by omega) _
      have HG : Hid (StuckAt w t ws w1.heap.size w2.heap.size 9 ((w2.alloc (.cells #[.bool false, .bool false, .bool false, .bool false, .bool false, .bool false, .bool false, .bool false, .bool false] 65)).setRow w2.heap.size (List.map Value.bool L).toArray)) :=
        ⟨List.replicate 9 false, below9_none t ws, offN_le _, g5, by rw [show onT t ws (List.replicate 9 false) = L from HL.out]; exact g6, hb3⟩
      obtain ⟨B5, hB5⟩ : ∃ B5, w1.heap.size = B5 := ⟨_, rfl⟩
      obtain ⟨B6, hB6⟩ : ∃ B6, w2.heap.size = B6 := ⟨_, rfl⟩
      obtain ⟨W3, hW3⟩ : ∃ W3, (w2.alloc (.cells #[.bool false, .bool false, .bool false, .bool false, .bool false, .bool false, .bool false, .bool false, .bool false] 65)).setRow w2.heap.size (List.map Value.bool L).toArray = W3 := ⟨_, rfl⟩
      rw [hW3] at HG ⊢
      rw [hB5, hB6] at HG
      rw [hB5, hB6]
      rw [hB5, hB6] at hs1
      rw [hB5] at hs0
      clear hW3 g5 g6 hb3 HL HLN HN hb2 hb1 hB5 hB6
      go_frame
      go_loopg [] 9 (fun g wr => Hid (StuckAt w t ws B5 B6 g wr))
      case atStart => exact HG
      case round =>
        obtain ⟨F, hF, hg, f5, f6, hbel⟩ := hrel.out
        clear HG
        have hs2 : w.heap.size ≤ wr.drew.heap.size := hbel.size
        obtain ⟨L, hL⟩ : ∃ L, onT t ws F = L := ⟨_, rfl⟩
        rw [hL] at f6
        have HL := Lib.hid hL
        have hLN : L.length = 9 := by rw [← hL]; exact onN_length _ _ _ _
        clear hL
        have hneq : ∀ W, (binOp .neq 65 (.agg (L.map Value.bool).toArray) (.agg (F.map Value.bool).toArray)).run Try.prog W = .ok (.bool (!(L == F))) W := fun W => flags_neq L F hLN hF.1 W
        have HLN := Lib.hid hLN
        have HF := Lib.hid hF
        have F5 := Lib.hid f5
        have F6 := Lib.hid f6
        clear hLN hF f5 f6 hrel
        cases he : (L == F) with
        | false =>
          rw [he] at hneq
          go_wp2_with (first
            | (refine wpList_load_row rfl 65 (.tmp 6) rfl B6 rfl _ _ _ _ F6.out Try.underlying65 rfl ?_ ?_)
            | (refine wpList_load_row rfl 65 (.tmp 5) rfl B5 rfl _ _ _ _ F5.out Try.underlying65 rfl ?_ ?_))
          · rw [infoArms]
            simp [HLN.out]
          · rw [infoArms]
            simp [HF.out.1]
-- REGION BEGINS
          refine wp_region_any (by kernel_rfl) ?_
          change wpAny _ _ _ _ _ _ _ (World.drew _)
          refine wpAny_take (i := 1) (v := ?_) rfl (by kernel_rfl) (by kernel_rfl) (by kernel_rfl) (fun _ _ _ h => h) (Or.inl ⟨by rfl, ?_⟩) ?_
          rotate_left
          · intro W
            rfl
          refine wpAny_take (i := 2) (v := ?_) rfl (by kernel_rfl) (by kernel_rfl) (by kernel_rfl) (fun _ _ _ h => h) (Or.inl ⟨by rfl, ?_⟩) ?_
          rotate_left
          · intro W
            rfl
          refine wpAny_ready (rs := [0, 3]) (by kernel_rfl) (by simp) ?_
          refine AllReady.cons rfl (fun K hK => ?_) (AllReady.cons rfl (fun K hK => ?_) AllReady.nil)
          · refine step_of rfl (wp_load_row 65 (.tmp 6) rfl B6 rfl _ _ _ _ F6.out Try.underlying65 rfl ?_ ?_)
            · rw [infoArms]
              simp [HLN.out]
            refine hK _ _ ?_
            clear hK K
            refine wpAny_ready (rs := [3]) (by kernel_rfl) (by simp) ?_
            refine AllReady.cons rfl (fun K hK => ?_) AllReady.nil
            refine step_of rfl (wp_load_row 65 (.tmp 6) rfl B6 rfl _ _ _ _ F6.out Try.underlying65 rfl ?_ ?_)
            · rw [infoArms]
              simp [HLN.out]
            refine hK _ _ ?_
            clear hK K
            refine wpAny_ready (rs := [4]) (by kernel_rfl) (by simp) ?_
            refine AllReady.cons rfl (fun K hK => ?_) AllReady.nil
            refine step_of rfl ?_
            go_simp
            refine (mutex_on' t ws _ _ L _ (HT.out.below (below_drew' hbel)) (HW.out.below (below_drew' hbel)) HR.out hlen HLN.out).mono ?_
            rintro e w2 ⟨rfl, hb2⟩
            have F6' := Lib.hid (stay hb2 F6.out)
            have F5' := Lib.hid (stay hb2 F5.out)
            go_simp
            refine hK _ _ ?_
            clear hK K
            refine wpAny_ready (rs := [5]) (by kernel_rfl) (by simp) ?_
            refine AllReady.cons rfl (fun K hK => ?_) AllReady.nil
            refine step_of rfl (wp_store_row 65 (.tmp 5) (.tmp 24) rfl B5 (L.map Value.bool).toArray rfl rfl _ _ F5'.out ?_ ?_ ?_ ?_)
            · rw [infoArms]
              simp [HLN.out]
            · simp [HLN.out, HF.out.1]
            · simp [Value.oneCell']
            refine hK _ _ ?_
            clear hK K
            refine wpAny_ready (rs := [6]) (by kernel_rfl) (by simp) ?_
            refine AllReady.cons rfl (fun K hK => ?_) AllReady.nil
            refine step_of rfl (wp_store_row 65 (.tmp 6) (.tmp 28) rfl B6 ((onT t ws L).map Value.bool).toArray rfl rfl _ _ (row_other F6'.out (by omega)) ?_ ?_ ?_ ?_)
            · rw [infoArms]
              simp [onT_length]
            · simp [onT_length, HLN.out]
            · simp [Value.oneCell']
            refine hK _ _ ?_
            clear hK K
            refine wpAny_done (by kernel_rfl) ?_ _
            have HE : Hid (StuckAt w t ws B5 B6 (offN L) ((w2.setRow B5 (L.map Value.bool).toArray).setRow B6 ((onT t ws L).map Value.bool).toArray)) := stuck_next HF.out HL.out (by omega) (by omega) F5'.out F6'.out (bstep (below_drew' hbel) (Nat.le_refl _) hb2)
            go_simp
            go_wp2
            go_roundg (offN L)
            case measure => exact Nat.lt_of_lt_of_le (stuck_less HF.out HL.out he) hg
            case rel => exact HE
          · refine step_of rfl (wp_load_row 65 (.tmp 6) rfl B6 rfl _ _ _ _ F6.out Try.underlying65 rfl ?_ ?_)
            · rw [infoArms]
              simp [HLN.out]
            refine hK _ _ ?_
            clear hK K
            refine wpAny_ready (rs := [0, 4]) (by kernel_rfl) (by simp) ?_
            refine AllReady.cons rfl (fun K hK => ?_) (AllReady.cons rfl (fun K hK => ?_) AllReady.nil)
            · refine step_of rfl (wp_load_row 65 (.tmp 6) rfl B6 rfl _ _ _ _ F6.out Try.underlying65 rfl ?_ ?_)
              · rw [infoArms]
                simp [HLN.out]
              refine hK _ _ ?_
              clear hK K
              refine wpAny_ready (rs := [4]) (by kernel_rfl) (by simp) ?_
              refine AllReady.cons rfl (fun K hK => ?_) AllReady.nil
              refine step_of rfl ?_
              go_simp
              refine (mutex_on' t ws _ _ L _ (HT.out.below (below_drew' hbel)) (HW.out.below (below_drew' hbel)) HR.out hlen HLN.out).mono ?_
              rintro e w2 ⟨rfl, hb2⟩
              have F6' := Lib.hid (stay hb2 F6.out)
              have F5' := Lib.hid (stay hb2 F5.out)
              go_simp
              refine hK _ _ ?_
              clear hK K
              refine wpAny_ready (rs := [5]) (by kernel_rfl) (by simp) ?_
              refine AllReady.cons rfl (fun K hK => ?_) AllReady.nil
              refine step_of rfl (wp_store_row 65 (.tmp 5) (.tmp 24) rfl B5 (L.map Value.bool).toArray rfl rfl _ _ F5'.out ?_ ?_ ?_ ?_)
              · rw [infoArms]
                simp [HLN.out]
              · simp [HLN.out, HF.out.1]
              · simp [Value.oneCell']
              refine hK _ _ ?_
              clear hK K
              refine wpAny_ready (rs := [6]) (by kernel_rfl) (by simp) ?_
              refine AllReady.cons rfl (fun K hK => ?_) AllReady.nil
              refine step_of rfl (wp_store_row 65 (.tmp 6) (.tmp 28) rfl B6 ((onT t ws L).map Value.bool).toArray rfl rfl _ _ (row_other F6'.out (by omega)) ?_ ?_ ?_ ?_)
              · rw [infoArms]
                simp [onT_length]
              · simp [onT_length, HLN.out]
              · simp [Value.oneCell']
              refine hK _ _ ?_
              clear hK K
              refine wpAny_done (by kernel_rfl) ?_ _
              have HE : Hid (StuckAt w t ws B5 B6 (offN L) ((w2.setRow B5 (L.map Value.bool).toArray).setRow B6 ((onT t ws L).map Value.bool).toArray)) := stuck_next HF.out HL.out (by omega) (by omega) F5'.out F6'.out (bstep (below_drew' hbel) (Nat.le_refl _) hb2)
              go_simp
              go_wp2
              go_roundg (offN L)
              case measure => exact Nat.lt_of_lt_of_le (stuck_less HF.out HL.out he) hg
              case rel => exact HE
            · refine step_of rfl ?_
              go_simp
              refine (mutex_on' t ws _ _ L _ (HT.out.below (below_drew' hbel)) (HW.out.below (below_drew' hbel)) HR.out hlen HLN.out).mono ?_
              rintro e w2 ⟨rfl, hb2⟩
              have F6' := Lib.hid (stay hb2 F6.out)
              have F5' := Lib.hid (stay hb2 F5.out)
              go_simp
              refine hK _ _ ?_
              clear hK K
              refine wpAny_ready (rs := [0]) (by kernel_rfl) (by simp) ?_
              refine AllReady.cons rfl (fun K hK => ?_) AllReady.nil
              refine step_of rfl (wp_load_row 65 (.tmp 6) rfl B6 rfl _ _ _ _ F6'.out Try.underlying65 rfl ?_ ?_)
              · rw [infoArms]
                simp [HLN.out]
              refine hK _ _ ?_
              clear hK K
              refine wpAny_ready (rs := [5]) (by kernel_rfl) (by simp) ?_
              refine AllReady.cons rfl (fun K hK => ?_) AllReady.nil
              refine step_of rfl (wp_store_row 65 (.tmp 5) (.tmp 24) rfl B5 (L.map Value.bool).toArray rfl rfl _ _ F5'.out ?_ ?_ ?_ ?_)
              · rw [infoArms]
                simp [HLN.out]
              · simp [HLN.out, HF.out.1]
              · simp [Value.oneCell']
              refine hK _ _ ?_
              clear hK K
              refine wpAny_ready (rs := [6]) (by kernel_rfl) (by simp) ?_
              refine AllReady.cons rfl (fun K hK => ?_) AllReady.nil
              refine step_of rfl (wp_store_row 65 (.tmp 6) (.tmp 28) rfl B6 ((onT t ws L).map Value.bool).toArray rfl rfl _ _ (row_other F6'.out (by omega)) ?_ ?_ ?_ ?_)
              · rw [infoArms]
                simp [onT_length]
              · simp [onT_length, HLN.out]
              · simp [Value.oneCell']
              refine hK _ _ ?_
              clear hK K
              refine wpAny_done (by kernel_rfl) ?_ _
              have HE : Hid (StuckAt w t ws B5 B6 (offN L) ((w2.setRow B5 (L.map Value.bool).toArray).setRow B6 ((onT t ws L).map Value.bool).toArray)) := stuck_next HF.out HL.out (by omega) (by omega) F5'.out F6'.out (bstep (below_drew' hbel) (Nat.le_refl _) hb2)
              go_simp
              go_wp2
              go_roundg (offN L)
              case measure => exact Nat.lt_of_lt_of_le (stuck_less HF.out HL.out he) hg
              case rel => exact HE
-- REGION ENDS
        | true =>
          rw [he] at hneq
          go_wp2_with (first
            | (refine wpList_load_row rfl 65 (.tmp 6) rfl B6 rfl _ _ _ _ F6.out Try.underlying65 rfl ?_ ?_)
            | (refine wpList_load_row rfl 65 (.tmp 5) rfl B5 rfl _ _ _ _ F5.out Try.underlying65 rfl ?_ ?_))
          · rw [infoArms]
            simp [HLN.out]
          · rw [infoArms]
            simp [HF.out.1]
          obtain rfl : L = F := by simpa using he
          have HLE := Lib.hid (HF.out.least HL.out)
          have HF6 := Lib.hid (FlagsAt.lt F6.out)
          clear hneq he hg
          obtain ⟨W, hW⟩ : ∃ W, wr = W := ⟨_, rfl⟩
          rw [hW] at hbel F6 HF6 ⊢
          clear F5 hW wr hs2
          go_loopw [7, 8] (fun o i wr => ∃ k : Nat, 1 ≤ k ∧ k ≤ 9 ∧ i = .int .i64 k ∧ Hid (OwnInts wr W.heap.size o (stuckN L k)) ∧ Below W.heap.size W wr) (fun _ i _ => 9 - (intOf i).toNat)
          case atStart => exact ⟨1, by omega, by omega, rfl, OwnInts.nil _ _, Below.refl _ _⟩
          case round =>
            obtain ⟨k, hk1, hk9, rfl, HO, hbel2⟩ := hrel
            by_cases hlt : k < 9
            · obtain ⟨c1, _⟩ := F6.out.cell (i := k) (by rw [HLN.out]; exact hlt)
              rw [← hbel2.cell (p := ⟨B6, _, none⟩) HF6.out] at c1
              have HS := Lib.hid (stuckN_succ L hk1)
              have hidx : ∀ W, (Instr.indexAt 65 (.pointer (some ⟨B6, 0, none⟩)) (.int .i64 (k : Int))).run Try.prog W = .ok (.pointer (some ⟨B6, k, none⟩)) W := fun W => idxF _ _ _ _ hlt
              cases hb : L.getD k false with
              | true =>
                rw [hb] at c1
                have HB := Lib.hid hb
                clear hb
                go_wp2
                refine ⟨⟨k + 1, by omega, by omega, by go_num, ?_, hbel2⟩, by simp [intOf]; omega⟩
                rw [HS.out, HB.out, if_pos rfl, List.append_nil]
                exact HO
              | false =>
                rw [hb] at c1
                have HB := Lib.hid hb
                clear hb
                have HK := Lib.hid (stuckN_le L k)
                go_wp2_with (at_builtin; refine wpList_append_ints rfl (.tmp 37) (.tmp 39) rfl W.heap.size _ _ rfl (HO.out.alloc _) _ [(k : Int)] rfl (IntsAt.lit1 _ _) ?_ ?_ ?_)
                · have := HK.out
                  simp
                  omega
                · have := hbel2.size
                  simp
                  omega
                · intro v1 w3 hown1 hg1 hb1
                  have HV1 := Lib.hid hown1
                  clear hown1 hg1
                  go_wp2
                  refine ⟨⟨k + 1, by omega, by omega, by go_num, ?_, (hbel2.alloc hbel2.size _).trans hb1⟩, by simp [intOf]; omega⟩
                  rw [HS.out, HB.out]
                  exact HV1.out
            · obtain rfl : k = 9 := by omega
              have hsL : (stuckN L 9).length ≤ 100000000 := by have := stuckN_le L 9; omega
              clear hk1 hk9 hlt
              go_wp2_with fail
              refine (sets_from (stuckN L 9) _ _ HO.out.ints hsL).mono ?_
              rintro e w4 ⟨⟨v4, rfl, q4⟩, hb4⟩
              have Q4 := Lib.hid q4
              clear q4
              go_wp2
              go_ret
              unfold GivesStuck
              rw [if_pos ⟨HR.out, hlen⟩]
              refine ⟨L, HLE.out, ⟨_, rfl, ?_⟩, bstep hbel (Nat.le_refl _) (bstep hbel2 (Nat.le_refl _) hb4)⟩
              have := Q4.out
              rw [show fromL (stuckN L 9) = stuckOf L from from_stuck L] at this
              exact this
    · have HR := Lib.hid hr
      go_enter Try.func35, Try.ntmps35
      go_wp2_with fail
      refine (mutex_right t _ _ HT.out).mono ?_
      rintro e w1 ⟨rfl, hb1⟩
      rw [hr]
      clear hr
      go_wp2
      go_ret
      unfold GivesStuck
      rw [if_neg (fun h => hlen h.2)]
      exact ⟨⟨_, rfl, IntsAt.nil _⟩, hb1⟩

end Go.Proofs.Ytacmigimkdiagaa
