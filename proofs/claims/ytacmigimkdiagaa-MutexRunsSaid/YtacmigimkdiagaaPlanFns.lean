/- Walks of package plan: the list of deeds. -/
import Derived.Test.YtacmigimkdiagaaSetTop
import Derived.Test.YtacmigimkdiagaaSetLaws
import Derived.Test.YtacmigimkdiagaaStrips
import Derived.Test.YtacmigimkdiagaaStable
namespace Go.Proofs.Ytacmigimkdiagaa
open Go.RowKit
set_option linter.unusedVariables false
set_option linter.unusedSimpArgs false

/-- A deed: its kind, its id. -/
def deedRow (d : Int × Int) : List Value := [.int .i64 d.1, .int .i64 d.2]
theorem deedRow_len (d : Int × Int) : (deedRow d).length = 2 := rfl
theorem deedRow_one (d : Int × Int) : ∀ u ∈ deedRow d, u.oneCell' = true := by intro u hu; simp [deedRow] at hu; rcases hu with rfl | rfl <;> rfl
abbrev PlanAt (w : World) (v : Value) (l : List (Int × Int)) : Prop := RowsAt 2 deedRow w v l
abbrev OwnPlan (w : World) (base : Nat) (v : Value) (l : List (Int × Int)) : Prop := OwnRows 36 2 deedRow w base v l
theorem infoDeed : (Try.prog.info? 36).map (fun i => (i.zero, i.size, i.bytes)) = some (some (.agg #[.int .i64 0, .int .i64 0]), 2, 16) := by kernel_rfl
theorem PlanAt.get2 {w : World} {a : Option Addr} {n cap k : Nat} {l : List (Int × Int)} (h : PlanAt w (.slice a n cap) l) (hk : k < l.length) :
    ∃ b off c, a = some ⟨b, off, none⟩ ∧ b < w.heap.size ∧ l[k]? = some c ∧ w.cell? ⟨b, off + k * 2, none⟩ = some (.int .i64 c.1) ∧ w.cell? ⟨b, off + k * 2 + 1, none⟩ = some (.int .i64 c.2) := by
  obtain ⟨b, off, ha, hb, hc⟩ := h.get (List.getElem?_eq_getElem hk)
  exact ⟨b, off, l[k], ha, hb, List.getElem?_eq_getElem hk, hc 0 _ rfl, hc 1 _ rfl⟩

/-- A list that is written, in block B. -/
def ListAt (w : World) (B : Nat) (xs : List (Int × Int)) : Prop := ∃ v, w.cell? ⟨B, 0, none⟩ = some v ∧ w.frozen? ⟨B, 0, none⟩ = false ∧ OwnPlan w (B + 1) v xs
def Listed (w : World) (B : Nat) (xs : List (Int × Int)) (r : Ending) (w' : World) : Prop := r = .returned (.tuple #[]) ∧ ListAt w' B xs ∧ Below B w w'
theorem ListAt.lt {w : World} {B : Nat} {xs : List (Int × Int)} (h : ListAt w B xs) : B < w.heap.size := by
  obtain ⟨v, hc, _⟩ := h
  exact World.block_lt_of_cell? _ _ hc
theorem ListAt.below {w w' : World} {B : Nat} {xs : List (Int × Int)} (h : ListAt w B xs) (hb : Below w.heap.size w w') : ListAt w' B xs := by
  have hlt := h.lt
  obtain ⟨v, hc, hf, ho⟩ := h
  exact ⟨v, by rw [hb.cell (p := ⟨B, 0, none⟩) hlt]; exact hc, by rw [hb.frozen (p := ⟨B, 0, none⟩) hlt]; exact hf, ho.below hb⟩
theorem ListAt.alloc {w : World} {B : Nat} {xs : List (Int × Int)} (h : ListAt w B xs) (o : Obj) : ListAt (w.alloc o) B xs := h.below ((Below.refl _ _).alloc (Nat.le_refl _) o)
/-- A slice that lies in a block below B. -/
def InOld (B : Nat) (v : Value) : Prop := ∀ b off n c, v = .slice (some ⟨b, off, none⟩) n c → b < B
theorem getD_get {l : List Int} {k : Nat} (hk : k < l.length) : l[k]? = some (l.getD k 0) := by simp [List.getD_eq_getElem?_getD, hk]
theorem take_map_snoc {α β : Type} (q : α → β) {l : List α} {k : Nat} {c : α} (h : l[k]? = some c) : (l.take (k + 1)).map q = (l.take k).map q ++ [q c] := by
  rw [List.take_add_one, h, Option.toList_some, List.map_append]
  rfl

set_option maxHeartbeats 800000 in
theorem list_put (B : Nat) (id : Int) (ks : List Int) (kv : Value) (xs : List (Int × Int)) (w : World) (hl : ListAt w B xs) (hk : IntsAt w kv ks) (hkk : ks.length ≤ 1 ∨ InOld B kv) (hlen : xs.length + ks.length ≤ 1000000000) :
    Calls Try.prog 41 #[.pointer (some ⟨B, 0, none⟩), .int .i64 id, kv] w fun r w' => Listed w B (xs ++ ks.map fun k => (k, id)) r w' := by
  have HK := Lib.hid hk
  have HKK := Lib.hid hkk
  have HLW := Lib.hid hl
  have hBw := hl.lt
  obtain ⟨a, ca, rfl, hl1, hl2, hl3, hl4⟩ := hk
  clear hl3 hl4 hkk hl
  unfold maxLen at hl2
  go_enter Try.func41, Try.ntmps41
  go_wp2
  go_loopw [10] (fun i wr => ∃ k : Nat, k ≤ ks.length ∧ i = .int .i64 k ∧ Hid (ListAt wr B (xs ++ (ks.take k).map fun k => (k, id))) ∧ Below B w wr ∧ Hid (k = 0 → w = wr)) (fun i _ => ks.length - (intOf i).toNat)
  case atStart => exact ⟨0, Nat.zero_le _, rfl, (by simpa using HLW.out : ListAt w B _), Below.refl _ _, fun _ => rfl⟩
  case round =>
    obtain ⟨k, hk, rfl, HL, hbel, HEQ⟩ := hrel
    have hBr := HL.out.lt
    by_cases hlt : k < ks.length
    · obtain ⟨b1, o1, rfl, hb1, c1⟩ := HK.out.get hlt
      have c1r : wr.cell? ⟨b1, o1 + k, none⟩ = some (.int .i64 (ks.getD k 0)) := by
        rcases Nat.eq_zero_or_pos k with h0 | h0
        · rw [← HEQ.out h0]; exact c1
        · have hb : b1 < B := by
            rcases HKK.out with h1 | h1
            · omega
            · exact h1 _ _ _ _ rfl
          rw [hbel.cell (p := ⟨b1, _, none⟩) hb]; exact c1
      have hb1r : b1 < wr.heap.size := World.block_lt_of_cell? _ _ c1r
      have HS := Lib.hid (take_map_snoc (fun k => (k, id)) (getD_get hlt))
      obtain ⟨x, hx⟩ : ∃ x, ks.getD k 0 = x := ⟨_, rfl⟩
      rw [hx] at c1r HS
      clear c1 hx
      obtain ⟨v, hcv, hfv, hov⟩ := HL.out
      have HOV := Lib.hid hov
      clear hov
      go_wp2_with (at_builtin; refine wpList_append_rows deedRow_len deedRow_one rfl (.tmp 18) (.tmp 22) 25 rfl (B + 1) 36 _ 16 Try.underlying25 infoDeed rfl (by decide) (by decide) _ _ rfl (HOV.out.alloc _) _ [(x, id)] rfl (RowsAt.lit deedRow_len _ _ [(x, id)] (by simp [maxLen])) ?_ ?_ ?_)
      · simp only [List.length_append, List.length_map, List.length_take, List.length_singleton]
        omega
      · simp
        omega
      intro v1 w5 hown5 hg5 hb5
      have c5 : w5.cell? ⟨B, 0, none⟩ = some v := by
        rw [hb5.cell (p := ⟨B, 0, none⟩) (Nat.lt_succ_self B), World.cell?_alloc_past _ _ _ hBr]
        exact hcv
      have f5 : w5.frozen? ⟨B, 0, none⟩ = false := by
        rw [hb5.frozen (p := ⟨B, 0, none⟩) (Nat.lt_succ_self B), World.frozen?_alloc_past _ _ _ hBr]
        exact hfv
      have HO5 := Lib.hid hown5
      obtain ⟨a1, cp, hv, _⟩ := OwnRows.rows deedRow_len hown5
      obtain ⟨n1, hv1⟩ : ∃ n1, v1 = .slice a1 n1 cp := ⟨_, hv⟩
      clear hv
      subst hv1
      have hbel5 : Below B w w5 := (hbel.alloc (by omega) _).trans (hb5.mono (Nat.le_succ B))
      clear hg5 hb5 hown5
      go_wp2
      refine ⟨⟨k + 1, hlt, by go_num, ?_, hbel5.setCell (Nat.le_refl B) _, fun h => by omega⟩, by simp [intOf]; omega⟩
      refine ⟨.slice a1 n1 cp, by go_simp, by go_simp, ?_⟩
      rw [HS.out, List.map_take]
      exact ownsRow_setCell_below HO5.out (Nat.lt_succ_self B) _
    · obtain rfl : k = ks.length := by omega
      rw [List.take_length] at HL
      go_wp2
      go_end0
      exact ⟨rfl, HL.out, hbel⟩

end Go.Proofs.Ytacmigimkdiagaa
