/- The walks of wait.Waits and of its reference. -/
import Derived.Test.YteaahepjendjmaaWaitSpans
namespace Go.Proofs.Yteaahepjendjmaa
open Go.RowKit
set_option linter.unusedVariables false
set_option linter.unusedSimpArgs false

/-- How long a request took: its arm, its number, ahead, behind. -/
structure Wt where
  w : Int
  n : Int
  a : Int
  b : Int
deriving DecidableEq, Inhabited
def waitRow (x : Wt) : List Value := [.int .i64 x.w, .int .i64 x.n, .int .i64 x.a, .int .i64 x.b]
theorem waitRow_len (x : Wt) : (waitRow x).length = 4 := rfl
theorem waitRow_one (x : Wt) : ∀ u ∈ waitRow x, u.oneCell' = true := by intro u hu; simp [waitRow] at hu; rcases hu with rfl | rfl | rfl | rfl <;> rfl
abbrev WaitsAt (w : World) (v : Value) (l : List Wt) : Prop := RowsAt 4 waitRow w v l
abbrev OwnWaits (w : World) (base : Nat) (v : Value) (l : List Wt) : Prop := OwnRows 37 4 waitRow w base v l
theorem WaitsAt.get4 {w : World} {a : Option Addr} {n cap k : Nat} {l : List Wt} (h : WaitsAt w (.slice a n cap) l) (hk : k < l.length) :
    ∃ b off e, a = some ⟨b, off, none⟩ ∧ b < w.heap.size ∧ l[k]? = some e ∧ w.cell? ⟨b, off + k * 4, none⟩ = some (.int .i64 e.w) ∧ w.cell? ⟨b, off + k * 4 + 1, none⟩ = some (.int .i64 e.n) ∧
      w.cell? ⟨b, off + k * 4 + 2, none⟩ = some (.int .i64 e.a) ∧ w.cell? ⟨b, off + k * 4 + 3, none⟩ = some (.int .i64 e.b) := by
  obtain ⟨b, off, ha, hb, hc⟩ := h.get (List.getElem?_eq_getElem hk)
  exact ⟨b, off, l[k], ha, hb, List.getElem?_eq_getElem hk, hc 0 _ rfl, hc 1 _ rfl, hc 2 _ rfl, hc 3 _ rfl⟩
theorem infoWait : (Try.prog.info? 37).map (fun i => (i.zero, i.size, i.bytes)) = some (some (.agg #[.int .i64 0, .int .i64 0, .int .i64 0, .int .i64 0]), 4, 32) := by kernel_rfl

/-- A literal of rows, its block's number spelt as the walk spells it. -/
theorem RowsAt.lit_at {α : Type} {sz : Nat} {f : α → List Value} (hf : ∀ x, (f x).length = sz) (w : World) (e : TypeId) (l : List α) (hm : l.length ≤ maxLen) {H : Nat} (hH : w.heap.size = H) :
    RowsAt sz f (w.alloc (.cells (l.flatMap f).toArray e)) (.slice (some ⟨H, 0, none⟩) l.length l.length) l := by
  subst hH
  exact RowsAt.lit hf w e l hm

def waitOf (l : List Ev) (c : Int × Int) : Wt := ⟨c.1, c.2, atT 2 c l - atT 1 c l, atT 3 c l - atT 2 c l⟩
def waitsL (l : List Ev) : List Wt := (toldR l).map (waitOf l)
theorem toldR_le (l : List Ev) : (toldR l).length ≤ l.length := by
  unfold toldR
  split
  · exact callsE_le _ _
  · simp
theorem waitsL_le (l : List Ev) : (waitsL l).length ≤ l.length := by unfold waitsL; rw [List.length_map]; exact toldR_le l
/-- A slice that does not lie in a block below base. -/
def NewFrom (base : Nat) (v : Value) : Prop := ∀ b off n c, v = .slice (some ⟨b, off, none⟩) n c → base ≤ b
theorem OwnRows.newFrom {α : Type} {e : TypeId} {sz : Nat} {f : α → List Value} {w : World} {base : Nat} {v : Value} {l : List α} (h : OwnRows e sz f w base v l) {B : Nat} (hB : B ≤ base) : NewFrom B v := by
  rintro b off n c rfl
  rcases h.2 with ⟨h, _⟩ | ⟨g, cap, cur, hv, hg, _⟩
  · cases h
  · cases hv
    omega
/-- What a call gives that gives waits. -/
def GivesWaits (w : World) (l : List Wt) (r : Ending) (w' : World) : Prop := (∃ v, r = .returned v ∧ WaitsAt w' v l ∧ NewFrom w.heap.size v) ∧ Below w.heap.size w w'
theorem toldR_at {l : List Ev} (hwf : ∀ e ∈ l, WfE e) {c : Int × Int} (hc : c ∈ toldR l) : rightB l = true ∧ WfC c ∧ 0 < atT 1 c l ∧ atT 1 c l < atT 2 c l ∧ atT 2 c l < atT 3 c l ∧ atT 3 c l ≤ 9223372036854775807 := by
  unfold toldR at hc
  split at hc
  · rename_i hr
    obtain ⟨h1, h2, h3⟩ := told_at hr hc
    obtain ⟨i, e, hi, _, ho⟩ := mem_callsE.1 hc
    exact ⟨hr, by rw [← ho]; exact (hwf e (List.mem_of_getElem? hi)).call, h1, h2, h3, (atT_le hwf 3 c).2⟩
  · cases hc
theorem map_snoc {α β : Type} (q : α → β) {l : List α} {k : Nat} {c : α} (h : l[k]? = some c) : (l.take (k + 1)).map q = (l.take k).map q ++ [q c] := by
  rw [List.take_add_one, h, Option.toList_some, List.map_append]
  rfl

set_option maxHeartbeats 1600000 in
theorem wait_waits (l : List Ev) (v : Value) (w : World) (hl : EvsAt w v l) (hlen : l.length ≤ 100000000) (hwf : ∀ e ∈ l, WfE e) :
    Calls Try.prog 22 #[v] w fun r w' => GivesWaits w (waitsL l) r w' := by
  have HL := Lib.hid hl
  have HW := Lib.hid hwf
  clear hwf
  obtain ⟨a, ca, rfl, hl1, hl2, hl3, hl4⟩ := hl
  clear hl3 hl4
  unfold maxLen at hl2
  go_enter Try.func22, Try.ntmps22
  go_wp2_with fail
  refine (wait_spans l _ _ HL.out hlen HW.out).mono ?_
  rintro r w2 ⟨⟨B, v2, n2, rfl, hm, h2⟩, hbel2⟩
  have hle2 := toldR_le l
  have HM := Lib.hid hm
  have H2 := Lib.hid h2
  obtain ⟨a2, ca2, rfl, hm1, hm2, hm3, hm4⟩ := h2
  clear hm hm3 hm4
  unfold maxLen at hm2
  have hs2 := hbel2.size
  go_wp2
  go_loopw [5, 16] (fun o i wr => ∃ k : Nat, k ≤ (toldR l).length ∧ i = .int .i64 k ∧ Hid (OwnWaits wr w2.heap.size o (((toldR l).take k).map (waitOf l))) ∧ Below w2.heap.size w2 wr) (fun _ i _ => (toldR l).length - (intOf i).toNat)
  case atStart => exact ⟨0, Nat.zero_le _, rfl, OwnRows.nil _ _ _ _ _, Below.refl _ _⟩
  case round =>
    obtain ⟨k, hk, rfl, HO, hbel⟩ := hrel
    have hsz := hbel.size
    by_cases hlt : k < (toldR l).length
    · obtain ⟨b1, o1, c, rfl, hb1, hkc, c1, c2⟩ := CallsAt.get2 H2.out hlt
      rw [← hbel.cell (p := ⟨b1, _, none⟩) hb1] at c1 c2
      obtain ⟨hr, hwc, x1, x2, x3, x4⟩ := toldR_at HW.out (List.mem_of_getElem? hkc)
      have HS := Lib.hid (map_snoc (waitOf l) hkc)
      have HWC := Lib.hid hwc
      have hsp : (spanR l c).getD (0, 0, 0) = (atT 1 c l, atT 2 c l, atT 3 c l) := by unfold spanR; rw [if_pos hr]; exact spanG_eq hr c
      have HSP := Lib.hid hsp
      have HMr := Lib.hid (HM.out.below hbel)
      have hle : (((toldR l).take k).map (waitOf l)).length ≤ l.length := by rw [List.length_map, List.length_take]; omega
      clear hkc hwc hsp hr
      go_wp2_with (first
        | (at_lookup; refine wpList_look_span rfl _ _ rfl rfl (HMr.out.alloc _) c rfl HWC.out ?_; rw [HSP.out])
        | (at_builtin; refine wpList_append_rows waitRow_len waitRow_one rfl (.tmp 23) (.tmp 36) 34 rfl w2.heap.size 37 _ 32 Try.underlying34 infoWait rfl (by decide) (by decide) _ _ rfl (((HO.out.alloc _).alloc _).alloc _) _ [waitOf l c] rfl (RowsAt.lit_at waitRow_len _ _ [waitOf l c] (by simp [maxLen]) ?_) ?_ ?_ ?_))
      · simp
      · simp only [List.length_singleton]
        omega
      · simp
        omega
      intro v1 w5 hown5 hg5 hb5
      have hbel5 : Below w2.heap.size w2 w5 := ((((hbel.alloc hsz _).alloc (by simp; omega) _).alloc (by simp; omega) _)).trans hb5
      clear hg5 hb5
      go_wp2
      refine ⟨⟨k + 1, hlt, by go_num, ?_, hbel5⟩, by simp [intOf]; omega⟩
      rw [HS.out, List.map_take]
      exact hown5
    · obtain rfl : k = (toldR l).length := by omega
      rw [List.take_length] at HO
      go_wp2
      go_ret
      exact ⟨⟨_, rfl, OwnRows.rows waitRow_len HO.out, OwnRows.newFrom HO.out hs2⟩, bstep hbel2 (Nat.le_refl _) hbel⟩

set_option maxHeartbeats 1600000 in
theorem ref34_waits (l : List Ev) (v : Value) (w : World) (hl : EvsAt w v l) (hlen : l.length ≤ 100000000) (hwf : ∀ e ∈ l, WfE e) :
    Calls Try.prog 23 #[v] w fun r w' => GivesWaits w (waitsL l) r w' := by
  have HL := Lib.hid hl
  have HW := Lib.hid hwf
  clear hwf
  obtain ⟨a, ca, rfl, hl1, hl2, hl3, hl4⟩ := hl
  clear hl3 hl4
  unfold maxLen at hl2
  go_enter Try.func23, Try.ntmps23
  go_wp2_with fail
  refine (ref19_right l _ _ HL.out hlen).mono ?_
  rintro r w1 ⟨rfl, hb1⟩
  have HL1 := Lib.hid (HL.out.below hb1)
  have htold : toldR l = if rightB l then callsE (isK 3) l else [] := rfl
  have HT := Lib.hid htold
  clear htold
  cases hr : rightB l with
  | false =>
    have HR := Lib.hid hr
    clear hr
    go_wp2
    go_ret
    refine ⟨⟨_, rfl, ?_, fun b off n c h => by cases h⟩, hb1⟩
    unfold waitsL
    rw [HT.out, HR.out]
    exact RowsAt.nil _ _ _
  | true =>
    have HR := Lib.hid hr
    clear hr
    go_wp2_with fail
    refine (ref19_all l _ 3 _ HL1.out hlen).mono ?_
    rintro r w2 ⟨⟨v2, rfl, h2⟩, hb2⟩
    have hbel2 := bstep hb1 (Nat.le_refl _) hb2
    have HL2 := Lib.hid (HL1.out.below hb2)
    rw [show callsE (isK 3) l = toldR l from by rw [HT.out, HR.out]; rfl] at h2
    have hle2 := toldR_le l
    have H2 := Lib.hid h2
    obtain ⟨a2, ca2, rfl, hm1, hm2, hm3, hm4⟩ := h2
    clear hm3 hm4 hb1 hb2
    unfold maxLen at hm2
    have hs2 := hbel2.size
    go_wp2
    go_loopw [3, 5] (fun o i wr => ∃ k : Nat, k ≤ (toldR l).length ∧ i = .int .i64 k ∧ Hid (OwnWaits wr w2.heap.size o (((toldR l).take k).map (waitOf l))) ∧ Below w2.heap.size w2 wr) (fun _ i _ => (toldR l).length - (intOf i).toNat)
    case atStart => exact ⟨0, Nat.zero_le _, rfl, OwnRows.nil _ _ _ _ _, Below.refl _ _⟩
    case round =>
      obtain ⟨k, hk, rfl, HO, hbel⟩ := hrel
      have hsz := hbel.size
      by_cases hlt : k < (toldR l).length
      · obtain ⟨b1, o1, c, rfl, hb1, hkc, c1, c2⟩ := CallsAt.get2 H2.out hlt
        rw [← hbel.cell (p := ⟨b1, _, none⟩) hb1] at c1 c2
        obtain ⟨hr, hwc, x1, x2, x3, x4⟩ := toldR_at HW.out (List.mem_of_getElem? hkc)
        have HS := Lib.hid (map_snoc (waitOf l) hkc)
        have HLr := Lib.hid (HL2.out.below hbel)
        have hbr : b1 < wr.heap.size := by omega
        have hle : (((toldR l).take k).map (waitOf l)).length ≤ l.length := by rw [List.length_map, List.length_take]; omega
        clear hkc hwc hr
        go_wp2_with fail
        refine (ref34_at l _ _ c _ HLr.out).mono ?_
        rintro r w4 ⟨rfl, hb4⟩
        have hbel4 := bstep hbel (Nat.le_refl _) hb4
        have HO4 := Lib.hid (HO.out.below hb4)
        have HL4 := Lib.hid (HLr.out.below hb4)
        rw [← hb4.cell (p := ⟨b1, _, none⟩) hbr] at c1 c2
        have hbr4 : b1 < w4.heap.size := by have := hb4.size; omega
        have hs4 := hbel4.size
        clear HLr hb4 hbel
        have i0 : (0 : Int) ≤ (k : Int) := by omega
        have i1 : (k : Int) < (toldR l).length := by omega
        have wa : IntKind.i64.wrap (atT 2 c l - atT 1 c l) = atT 2 c l - atT 1 c l := IntWalk.i64_in _ (by omega)
        have wb : IntKind.i64.wrap (atT 3 c l - atT 2 c l) = atT 3 c l - atT 2 c l := IntWalk.i64_in _ (by omega)
        have h40 : 0 < 4 := by omega
        have h32 : 32 ≤ 64 := by omega
        have hone : [waitOf l c].length ≤ maxLen := by simp [maxLen]
        have hfits : (((toldR l).take k).map (waitOf l)).length + [waitOf l c].length ≤ 1099511627776 := by rw [List.length_singleton]; omega
        have HFITS := Lib.hid hfits
        have HO4d : Hid (OwnWaits w4.drew w2.heap.size _ (((toldR l).take k).map (waitOf l))) := HO4.out.drew
        clear HO4 HO hfits
        go_wp2
        rw [hbel4.cell (p := ⟨b1, _, none⟩) hb1] at c1 c2
        have hK4 : Keeps w2 w4.drew := Keeps.of hbel4.drew
        go_region_held3 (fun w' => Below w2.heap.size w2 w' ∧ (∀ b o, b < w2.heap.size → w'.cell? ⟨b, o, none⟩ = w2.cell? ⟨b, o, none⟩) ∧ ∀ b o, b < w2.heap.size → w'.frozen? ⟨b, o, none⟩ = w2.frozen? ⟨b, o, none⟩)
          (first | exact hK4 | exact hB | exact Keeps.new hB _ | exact Keeps.new (by assumption) _)
          (first
            | (go_at_call 42; refine (ref34_at l _ _ c _ (HL2.out.below (Keeps.bel (by assumption)))).mono ?_; rintro r w5 ⟨rfl, hb⟩; have hB := Keeps.call hb (by assumption); have HO5 : Hid (OwnWaits w5 w2.heap.size _ (((toldR l).take k).map (waitOf l))) := OwnRows.below (Hid.out (by assumption)) hb)
            | (refine step_append_rows waitRow_len waitRow_one rfl (.tmp 25) (.tmp 47) 34 rfl w2.heap.size 37 _ 32 Try.underlying34 infoWait rfl h40 h32 _ _ rfl (OwnRows.alloc (Hid.out (by assumption)) _) _ [waitOf l c] rfl (RowsAt.lit waitRow_len _ _ [waitOf l c] hone) HFITS.out (Keeps.bel (by assumption)).size ?_; intro v1 w6 hown6 hg6 hb6; have hB : Keeps w2 w6 := .of ((Keeps.bel (by assumption)).trans hb6); clear hg6 hb6))
        all_goals
          clear wa wb
          go_wp2
          refine ⟨⟨k + 1, hlt, by go_num, ?_, hB.1⟩, by simp [intOf]; omega⟩
          rw [HS.out]
          exact hown6
      · obtain rfl : k = (toldR l).length := by omega
        rw [List.take_length] at HO
        go_wp2
        go_ret
        exact ⟨⟨_, rfl, OwnRows.rows waitRow_len HO.out, OwnRows.newFrom HO.out hs2⟩, bstep hbel2 (Nat.le_refl _) hbel⟩

end Go.Proofs.Yteaahepjendjmaa
