/- Walks of package mutex: who gets on in one round. -/
import Derived.Test.YtacmigimkdiagaaMutWhose
import Derived.Laws.CopyOwn
namespace Go.Proofs.Ytacmigimkdiagaa
open Go.RowKit
set_option linter.unusedVariables false
set_option linter.unusedSimpArgs false

/-- Is an arm free, given who gets on? -/
def freeB (t ws : List Int) (bs : List Bool) (i : Nat) : Bool :=
  decide (ws.length < i) || !heldB t (ws.getD (i - 1) 0) || t.getD (ws.getD (i - 1) 0).toNat 0 == 0 || bs.getD (t.getD (ws.getD (i - 1) 0).toNat 0).toNat false
/-- Those that get on behind the arms below k. -/
def onN (t ws : List Int) (bs : List Bool) (k : Nat) : List Bool := (List.range 9).map fun i => bs.getD i false || (decide (1 ≤ i) && decide (i < k) && freeB t ws bs i)
def onT (t ws : List Int) (bs : List Bool) : List Bool := onN t ws bs 9
theorem onN_length (t ws : List Int) (bs : List Bool) (k : Nat) : (onN t ws bs k).length = 9 := by simp [onN]
theorem onN_get (t ws : List Int) (bs : List Bool) (k : Nat) {i : Nat} (hi : i < 9) : (onN t ws bs k).getD i false = (bs.getD i false || (decide (1 ≤ i) && decide (i < k) && freeB t ws bs i)) := by
  unfold onN
  rw [List.getD_eq_getElem?_getD, List.getElem?_map, List.getElem?_range hi]
  rfl
theorem ext9 {a b : List Bool} (ha : a.length = 9) (hb : b.length = 9) (h : ∀ i, i < 9 → a.getD i false = b.getD i false) : a = b := by
  apply List.ext_getElem (by omega)
  intro i h1 h2
  have := h i (by omega)
  simpa [h1, h2] using this
theorem onN_one (t ws : List Int) (bs : List Bool) (hb : bs.length = 9) : onN t ws bs 1 = bs := by
  refine ext9 (onN_length _ _ _ _) hb fun i hi => ?_
  rw [onN_get _ _ _ _ hi]
  cases bs.getD i false
  · by_cases h1 : 1 ≤ i
    · rw [decide_eq_false (show ¬ i < 1 by omega)]
      simp
    · rw [decide_eq_false h1]
      simp
  · rfl
theorem onN_yes (t ws : List Int) (bs : List Bool) {k : Nat} (h1 : 1 ≤ k) (h9 : k < 9) (hf : freeB t ws bs k = true) : onN t ws bs (k + 1) = (onN t ws bs k).set k true := by
  refine ext9 (onN_length _ _ _ _) (by rw [List.length_set]; exact onN_length _ _ _ _) fun i hi => ?_
  rw [onN_get _ _ _ _ hi, List.getD_eq_getElem?_getD (l := (onN t ws bs k).set k true), List.getElem?_set]
  by_cases hik : k = i
  · subst hik
    rw [if_pos rfl, if_pos (by rw [onN_length]; exact h9), decide_eq_true h1, decide_eq_true (show k < k + 1 by omega), hf]
    simp
  · rw [if_neg hik, ← List.getD_eq_getElem?_getD, onN_get _ _ _ _ hi]
    by_cases hlt : i < k
    · rw [decide_eq_true hlt, decide_eq_true (show i < k + 1 by omega)]
    · rw [decide_eq_false hlt, decide_eq_false (show ¬ i < k + 1 by omega)]
theorem onN_no (t ws : List Int) (bs : List Bool) {k : Nat} (hf : freeB t ws bs k = false) : onN t ws bs (k + 1) = onN t ws bs k := by
  refine ext9 (onN_length _ _ _ _) (onN_length _ _ _ _) fun i hi => ?_
  rw [onN_get _ _ _ _ hi, onN_get _ _ _ _ hi]
  by_cases hik : i = k
  · subst hik
    rw [hf]
    simp
  · by_cases hlt : i < k
    · rw [decide_eq_true hlt, decide_eq_true (show i < k + 1 by omega)]
    · rw [decide_eq_false hlt, decide_eq_false (show ¬ i < k + 1 by omega)]

/-- Flags as a value, and in a block. -/
abbrev flagsV (bs : List Bool) : Value := .agg (bs.map Value.bool).toArray
def FlagsAt (w : World) (B : Nat) (bs : List Bool) : Prop := w.heap[B]? = some (.cells (bs.map Value.bool).toArray 65 (0, 0))
theorem FlagsAt.cell {w : World} {B : Nat} {bs : List Bool} (h : FlagsAt w B bs) {i : Nat} (hi : i < bs.length) : w.cell? ⟨B, i, none⟩ = some (.bool (bs.getD i false)) ∧ w.frozen? ⟨B, i, none⟩ = false := by
  refine ⟨?_, frozen_of_row w B i _ _ h⟩
  rw [cell_of_row w B i _ _ _ h]
  simp [hi]
theorem FlagsAt.store {w : World} {B : Nat} {bs : List Bool} (h : FlagsAt w B bs) (i : Nat) (b : Bool) : FlagsAt (w.setCell ⟨B, i, none⟩ (.bool b)) B (bs.set i b) := by
  unfold FlagsAt at *
  rw [heap_setCell_same w B i _ _ _ h]
  congr 2
  rw [List.map_set]
  simp
theorem FlagsAt.other {w : World} {B C : Nat} {bs : List Bool} (h : FlagsAt w B bs) (hne : B ≠ C) (i : Nat) (v : Value) : FlagsAt (w.setCell ⟨C, i, none⟩ v) B bs := (heap_setCell_other w ⟨C, i, none⟩ B v hne).trans h
theorem FlagsAt.lt {w : World} {B : Nat} {bs : List Bool} (h : FlagsAt w B bs) : B < w.heap.size := (Array.getElem?_eq_some_iff.1 h).1

/-- A place of nine flags. -/
@[go_sem high] theorem idxF (b x : Nat) (kd : IntKind) (w : World) (hx : x < 9) : (Instr.indexAt 65 (.pointer (some ⟨b, 0, none⟩)) (.int kd (x : Int))).run Try.prog w = .ok (.pointer (some ⟨b, x, none⟩)) w := by
  have h1 : Try.prog.arrayLen 65 = 9 := by kernel_rfl
  have h2 : Try.prog.elem 65 = 4 := by kernel_rfl
  have h3 : Try.prog.underlying 65 = some (.array (Try.prog.arrayLen 65) (Try.prog.elem 65)) := by kernel_rfl
  simp only [run_indexAt_array _ _ _ _ _ h3]
  rw [if_pos (by rw [h1]; omega), h2]
  have hs : (sizeOf 4).run Try.prog w = .ok 1 w := by go_simp
  rw [hs]
  simp only [Result.andThen_ok]
  rw [Int.toNat_natCast, Nat.mul_one]
  unfold Addr.add
  split
  · next h0 => subst h0; rfl
  · simp

theorem infoArms : (Try.prog.info? 65).map (·.size) = some 9 := by kernel_rfl

theorem blocks3 (w : World) (A B C : Obj) : (((w.alloc A).alloc B).alloc C).heap[w.heap.size]? = some A ∧ (((w.alloc A).alloc B).alloc C).heap[w.heap.size + 1]? = some B ∧ (((w.alloc A).alloc B).alloc C).heap[w.heap.size + 2]? = some C := by
  have e1 : (w.alloc A).heap.size = w.heap.size + 1 := by simp
  have e2 : ((w.alloc A).alloc B).heap.size = w.heap.size + 2 := by simp
  refine ⟨?_, ?_, ?_⟩
  · rw [Below.heap_alloc _ _ _ (by rw [e2]; omega), Below.heap_alloc _ _ _ (by rw [e1]; omega)]
    exact heap_alloc_new w A
  · rw [Below.heap_alloc _ _ _ (by rw [e2]; omega), ← e1]
    exact heap_alloc_new (w.alloc A) B
  · rw [← e2]
    exact heap_alloc_new ((w.alloc A).alloc B) C

/-- What holds at a round's head: the flags that came in, the result's place, the flags so far. -/
def OnAt (w : World) (t ws : List Int) (bs : List Bool) (k : Nat) (wr : World) : Prop :=
  FlagsAt wr w.heap.size bs ∧ FlagsAt wr (w.heap.size + 1) (List.replicate 9 false) ∧ FlagsAt wr (w.heap.size + 2) (onN t ws bs k) ∧ Below w.heap.size w wr

theorem OnAt.yes {w : World} {t ws : List Int} {bs : List Bool} {k : Nat} {wr : World} (h : OnAt w t ws bs k wr) (hs : onN t ws bs (k + 1) = (onN t ws bs k).set k true) :
    OnAt w t ws bs (k + 1) (wr.setCell ⟨w.heap.size + 2, k, none⟩ (.bool true)) := by
  obtain ⟨h0, h1, h2, h3⟩ := h
  refine ⟨h0.other (by omega) _ _, h1.other (by omega) _ _, ?_, h3.setCell (by simp) _⟩
  rw [hs]
  exact h2.store k true
theorem OnAt.no {w : World} {t ws : List Int} {bs : List Bool} {k : Nat} {wr : World} (h : OnAt w t ws bs k wr) (hs : onN t ws bs (k + 1) = onN t ws bs k) : OnAt w t ws bs (k + 1) wr := by
  obtain ⟨h0, h1, h2, h3⟩ := h
  exact ⟨h0, h1, by rw [hs]; exact h2, h3⟩

theorem right_in {t : List Int} (hr : rightO t = true) {k : Nat} (hk : k < t.length) : ∃ x : Nat, t.getD k 0 = (x : Int) ∧ x ≤ 8 := by
  unfold rightO at hr
  have h1 := firstIdx_none_spec (Option.isNone_iff_eq_none.1 hr) k hk
  simp only [ownB_in] at h1
  simp at h1
  exact ⟨(t.getD k 0).toNat, by simp; omega, by simp; omega⟩

set_option maxHeartbeats 3200000 in
theorem mutex_on (t ws : List Int) (u v : Value) (b0 b1 b2 b3 b4 b5 b6 b7 b8 : Bool) (w : World) (ht : IntsAt w u t) (hw : IntsAt w v ws) (hr : rightO t = true) (hl : ws.length ≤ 8) :
    Calls Try.prog 55 #[u, v, flagsV [b0, b1, b2, b3, b4, b5, b6, b7, b8]] w fun e w' => e = .returned (flagsV (onT t ws [b0, b1, b2, b3, b4, b5, b6, b7, b8])) ∧ Below w.heap.size w w' := by
  have HT := Lib.hid ht
  have HW := Lib.hid hw
  have HR := Lib.hid hr
  clear hr
  obtain ⟨a, ca, rfl, hl1, hl2, hl3, hl4⟩ := ht
  obtain ⟨a', ca', rfl, hl1', hl2', hl3', hl4'⟩ := hw
  clear hl3 hl4 hl3' hl4'
  unfold maxLen at hl2 hl2'
  obtain ⟨bs, hbs⟩ : ∃ bs, [b0, b1, b2, b3, b4, b5, b6, b7, b8] = bs := ⟨_, rfl⟩
  have HBL := Lib.hid (show bs.length = 9 by rw [← hbs]; rfl)
  have HB := Lib.hid hbs
  rw [show onT t ws [b0, b1, b2, b3, b4, b5, b6, b7, b8] = onT t ws bs by rw [hbs]]
  clear hbs
  go_enter Try.func55, Try.ntmps55
  go_wp2
  go_step3
  go_wp2
  go_step3
  go_wp2
  go_loopg [8] 8 (fun g i wr => ∃ k : Nat, 1 ≤ k ∧ k + g = 9 ∧ i = .int .i64 k ∧ Hid (OnAt w t ws bs k wr))
  case atStart =>
    refine ⟨1, by omega, by omega, rfl, ?_⟩
    have h3 := blocks3 w (.cells (bs.map Value.bool).toArray 65) (.cells ((List.replicate 9 false).map Value.bool).toArray 65) (.cells (bs.map Value.bool).toArray 65)
    have h4 : OnAt w t ws bs 1 (((w.alloc (.cells (bs.map Value.bool).toArray 65)).alloc (.cells ((List.replicate 9 false).map Value.bool).toArray 65)).alloc (.cells (bs.map Value.bool).toArray 65)) :=
      ⟨h3.1, h3.2.1, by rw [onN_one _ _ _ HBL.out]; exact h3.2.2, (((Below.refl _ _).alloc (Nat.le_refl _) _).alloc (by simp) _).alloc (by simp; omega) _⟩
    rw [← HB.out] at h4 ⊢
    exact h4
  case round =>
    obtain ⟨k, hk1, hkg, rfl, HO⟩ := hrel
    obtain ⟨f0, f1, f2, hbel⟩ := id HO.out
    have hsz := f2.lt
    by_cases hk9 : k < 9
    · have hkl := onN_length t ws bs k
      obtain ⟨c1, c2⟩ := f2.cell (i := k) (by omega)
      clear hkl f0 f1 f2
      by_cases hlen : ws.length < k
      · have HF := Lib.hid (show freeB t ws bs k = true by unfold freeB; rw [decide_eq_true hlen]; rfl)
        have HS := Lib.hid (onN_yes t ws bs hk1 hk9 HF.out)
        clear hbel
        go_wp2
        go_roundg (9 - (k + 1))
        case measure => omega
        case rel => exact ⟨k + 1, by omega, by omega, by go_num, HO.out.yes HS.out⟩
      · have hkm : k - 1 < ws.length := by omega
        obtain ⟨b1, o1, rfl, hb1, c3⟩ := HW.out.get hkm
        rw [← hbel.cell (p := ⟨b1, _, none⟩) hb1] at c3
        obtain ⟨id, hid⟩ : ∃ id, ws.getD (k - 1) 0 = id := ⟨_, rfl⟩
        rw [hid] at c3
        have HID := Lib.hid hid
        clear hid
        have HF0 := Lib.hid (show freeB t ws bs k = (!heldB t id || t.getD id.toNat 0 == 0 || bs.getD (t.getD id.toNat 0).toNat false) by unfold freeB; rw [decide_eq_false hlen, HID.out]; rfl)
        cases hh : heldB t id with
        | false =>
          have HF := Lib.hid (show freeB t ws bs k = true by rw [HF0.out, hh]; rfl)
          have HS := Lib.hid (onN_yes t ws bs hk1 hk9 HF.out)
          go_wp2_with fail
          refine (mutex_held t _ _ _ (HT.out.below hbel)).mono ?_
          rintro e w1 ⟨rfl, rfl⟩
          rw [hh]
          clear hbel
          go_wp2
          go_roundg (9 - (k + 1))
          case measure => omega
          case rel => exact ⟨k + 1, by omega, by omega, by go_num, HO.out.yes HS.out⟩
        | true =>
          obtain ⟨m, rfl, hm⟩ := heldB_ids hh
          obtain ⟨b2, o2, rfl, hb2, c4⟩ := HT.out.get hm
          rw [← hbel.cell (p := ⟨b2, _, none⟩) hb2] at c4
          obtain ⟨x, hx, hx8⟩ := right_in HR.out hm
          rw [hx] at c4
          have HX := Lib.hid hx
          clear hx
          have HF1 := Lib.hid (show freeB t ws bs k = ((x : Int) == 0 || bs.getD x false) by rw [HF0.out, hh, Int.toNat_natCast, HX.out, Int.toNat_natCast]; rfl)
          obtain ⟨c5, _⟩ := HO.out.1.cell (i := x) (by rw [HBL.out]; omega)
          have hx9 : x < 9 := by omega
          have hidx : ∀ W, (Instr.indexAt 65 (.pointer (some ⟨w.heap.size, 0, none⟩)) (.int .i64 (x : Int))).run Try.prog W = .ok (.pointer (some ⟨w.heap.size, x, none⟩)) W := fun W => idxF _ _ _ _ hx9
          have hws : w.heap.size < wr.heap.size := by omega
          cases hx0 : ((x : Int) != 0) with
          | false =>
            have HF := Lib.hid (show freeB t ws bs k = true by rw [HF1.out]; have : ((x : Int) == 0) = true := by simpa using hx0
                                                               rw [this]; rfl)
            have HS := Lib.hid (onN_yes t ws bs hk1 hk9 HF.out)
            clear c5 hidx hx9 hx8
            go_wp2_with fail
            refine (mutex_held t _ _ _ (HT.out.below hbel)).mono ?_
            rintro e w1 ⟨rfl, rfl⟩
            rw [hh]
            clear hbel
            go_wp2
            go_roundg (9 - (k + 1))
            case measure => omega
            case rel => exact ⟨k + 1, by omega, by omega, by go_num, HO.out.yes HS.out⟩
          | true =>
            have HF2 := Lib.hid (show freeB t ws bs k = bs.getD x false by rw [HF1.out]; have : ((x : Int) == 0) = false := by simpa using hx0
                                                                           rw [this]; rfl)
            cases hb : bs.getD x false with
            | true =>
              have HS := Lib.hid (onN_yes t ws bs hk1 hk9 (by rw [HF2.out]; exact hb))
              rw [hb] at c5
              clear hb
              go_wp2_with fail
              refine (mutex_held t _ _ _ (HT.out.below hbel)).mono ?_
              rintro e w1 ⟨rfl, rfl⟩
              rw [hh]
              clear hbel
              go_wp2
              go_roundg (9 - (k + 1))
              case measure => omega
              case rel => exact ⟨k + 1, by omega, by omega, by go_num, HO.out.yes HS.out⟩
            | false =>
              have HS := Lib.hid (onN_no t ws bs (k := k) (by rw [HF2.out]; exact hb))
              rw [hb] at c5
              clear hb
              go_wp2_with fail
              refine (mutex_held t _ _ _ (HT.out.below hbel)).mono ?_
              rintro e w1 ⟨rfl, rfl⟩
              rw [hh]
              clear hbel
              go_wp2
              go_roundg (9 - (k + 1))
              case measure => omega
              case rel => exact ⟨k + 1, by omega, by omega, by go_num, HO.out.no HS.out⟩
    · obtain rfl : k = 9 := by omega
      have hl9 := onN_length t ws bs 9
      obtain ⟨L, hL⟩ : ∃ L, onN t ws bs 9 = L := ⟨_, rfl⟩
      rw [hL] at f2 hl9
      have HLL := Lib.hid (show onT t ws bs = L from hL)
      have HLN := Lib.hid hl9
      clear hL hl9
      have H2 := Lib.hid f2
      have H1 := Lib.hid f1
      have HBE := Lib.hid hbel
      clear f0 f1 f2 hbel hsz hk9 hk1 hkg
      go_wp2_with (first
        | (refine wpList_load_row rfl 65 (.tmp 7) rfl (w.heap.size + 2) rfl _ _ _ _ H2.out Try.underlying65 rfl ?_ ?_)
        | (refine wpList_store_row rfl 65 (.tmp 6) (.tmp 45) rfl (w.heap.size + 1) (L.map Value.bool).toArray rfl rfl _ _ H1.out ?_ ?_ ?_ ?_))
      · rw [infoArms]
        simp [HLN.out]
      · rw [infoArms]
        simp [HLN.out]
      · simp [HLN.out]
      · simp [Value.oneCell']
      · first | rw [Exit.noGoto_ret] | skip
        refine bodyPost_ret (v := flagsV L) (results_cell_row rfl _ _ (w.heap.size + 1) _ _ _ _ rfl (setRow_heap _ _ _ _ _ _ H1.out) Try.underlying65 rfl ?_) rfl ⟨by rw [HLL.out], below_setRow HBE.out (by omega) _⟩
        rw [infoArms]
        simp [HLN.out]

end Go.Proofs.Ytacmigimkdiagaa
