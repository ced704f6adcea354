/- The walks of wait.Longest and of its reference. -/
import Derived.Test.YteaahepjendjmaaWaitRows
namespace Go.Proofs.Yteaahepjendjmaa
open Go.RowKit
set_option linter.unusedVariables false
set_option linter.unusedSimpArgs false

abbrev wtV (x : Wt) : Value := .agg #[.int .i64 x.w, .int .i64 x.n, .int .i64 x.a, .int .i64 x.b]
theorem call_eq_fuel (n : Nat) (a b c d : Int) (w : World) : (Op.equalIn (n + 2) 31 (.agg #[.int .i64 a, .int .i64 b]) (.agg #[.int .i64 c, .int .i64 d])).run Try.prog w = .ok (a == c && b == d) w := by
  have hS : Try.prog.underlying 31 = some (.struct (Try.prog.fieldsOf 31)) := by kernel_rfl
  have hp : Try.prog.stoodInHeld 31 = false := by kernel_rfl
  have u := Try.underlying3
  rw [run_equalIn_agg w (n + 1) 31 _ _ hS hp]
  simp only [Program.fieldsOf, Try.underlying31]
  go_simp
  by_cases h1 : a = c <;> by_cases h2 : b = d <;> simp [h1, h2]
/-- Two waits held against each other. -/
theorem wt_eq_fuel (n : Nat) (a b c d a' b' c' d' : Int) (w : World) : (Op.equalIn (n + 3) 37 (.agg #[.int .i64 a, .int .i64 b, .int .i64 c, .int .i64 d]) (.agg #[.int .i64 a', .int .i64 b', .int .i64 c', .int .i64 d'])).run Try.prog w =
    .ok ((a == a' && b == b') && (c == c' && d == d')) w := by
  have hS : Try.prog.underlying 37 = some (.struct (Try.prog.fieldsOf 37)) := by kernel_rfl
  have hp : Try.prog.stoodInHeld 37 = false := by kernel_rfl
  have hcall := call_eq_fuel n
  have u := Try.underlying3
  have hk1 : Try.prog.cellsOf 31 = 2 := by kernel_rfl
  rw [run_equalIn_agg w (n + 2) 37 _ _ hS hp]
  simp only [Program.fieldsOf, Try.underlying37]
  clear hS hp
  go_simp
  by_cases h1 : a = a' <;> by_cases h2 : b = b' <;> by_cases h3 : c = c' <;> by_cases h4 : d = d' <;> simp [h1, h2, h3, h4]
def sameW (x y : Wt) : Bool := (x.w == y.w && x.n == y.n) && (x.a == y.a && x.b == y.b)
theorem sameW_iff (x y : Wt) : sameW x y = true ↔ x = y := by
  obtain ⟨x1, x2, x3, x4⟩ := x
  obtain ⟨y1, y2, y3, y4⟩ := y
  simp [sameW, and_assoc]
@[go_sem high] theorem wt_eql (a b c d a' b' c' d' : Int) (w : World) : (binOp .eql 37 (.agg #[.int .i64 a, .int .i64 b, .int .i64 c, .int .i64 d]) (.agg #[.int .i64 a', .int .i64 b', .int .i64 c', .int .i64 d'])).run Try.prog w = .ok (.bool (sameW ⟨a, b, c, d⟩ ⟨a', b', c', d'⟩)) w := by
  rw [run_eql_struct, show (10000 : Nat) = 9997 + 3 from rfl, wt_eq_fuel]
  rfl
@[go_sem high] theorem wt_neq (a b c d a' b' c' d' : Int) (w : World) : (binOp .neq 37 (.agg #[.int .i64 a, .int .i64 b, .int .i64 c, .int .i64 d]) (.agg #[.int .i64 a', .int .i64 b', .int .i64 c', .int .i64 d'])).run Try.prog w = .ok (.bool (!sameW ⟨a, b, c, d⟩ ⟨a', b', c', d'⟩)) w := by
  rw [run_neq_struct, show (10000 : Nat) = 9997 + 3 from rfl, wt_eq_fuel]
  rfl

/-- A wait in a block of its own. -/
structure WtBox (w : World) (B : Nat) (x : Wt) : Prop where
  c0 : w.cell? ⟨B, 0, none⟩ = some (.int .i64 x.w)
  c1 : w.cell? ⟨B, 1, none⟩ = some (.int .i64 x.n)
  c2 : w.cell? ⟨B, 2, none⟩ = some (.int .i64 x.a)
  c3 : w.cell? ⟨B, 3, none⟩ = some (.int .i64 x.b)
  f0 : w.frozen? ⟨B, 0, none⟩ = false
  f1 : w.frozen? ⟨B, 1, none⟩ = false
  f2 : w.frozen? ⟨B, 2, none⟩ = false
  f3 : w.frozen? ⟨B, 3, none⟩ = false
theorem WtBox.below {w w' : World} {B : Nat} {x : Wt} (h : WtBox w B x) (hb : Below w.heap.size w w') : WtBox w' B x := by
  have hlt : B < w.heap.size := World.block_lt_of_cell? _ _ h.c0
  obtain ⟨h1, h2, h3, h4, h5, h6, h7, h8⟩ := h
  constructor
  · rw [hb.cell (p := ⟨B, 0, none⟩) hlt]; exact h1
  · rw [hb.cell (p := ⟨B, 1, none⟩) hlt]; exact h2
  · rw [hb.cell (p := ⟨B, 2, none⟩) hlt]; exact h3
  · rw [hb.cell (p := ⟨B, 3, none⟩) hlt]; exact h4
  · rw [hb.frozen (p := ⟨B, 0, none⟩) hlt]; exact h5
  · rw [hb.frozen (p := ⟨B, 1, none⟩) hlt]; exact h6
  · rw [hb.frozen (p := ⟨B, 2, none⟩) hlt]; exact h7
  · rw [hb.frozen (p := ⟨B, 3, none⟩) hlt]; exact h8
theorem WtBox.put {w : World} {B : Nat} {x : Wt} (h : WtBox w B x) (y : Wt) :
    WtBox ((((w.setCell ⟨B, 0, none⟩ (.int .i64 y.w)).setCell ⟨B, 1, none⟩ (.int .i64 y.n)).setCell ⟨B, 2, none⟩ (.int .i64 y.a)).setCell ⟨B, 3, none⟩ (.int .i64 y.b)) B y := by
  obtain ⟨h1, h2, h3, h4, h5, h6, h7, h8⟩ := h
  constructor <;> go_simp
theorem WtBox.other {w : World} {B : Nat} {x : Wt} (h : WtBox w B x) {C : Nat} (hC : C ≠ B) (o : Nat) (v : Value) : WtBox (w.setCell ⟨C, o, none⟩ v) B x := by
  obtain ⟨h1, h2, h3, h4, h5, h6, h7, h8⟩ := h
  have hne : B ≠ C := fun h => hC h.symm
  constructor <;> simp_all [go_sem]

def bestStep (z x : Wt) : Wt := if z.a + z.b < x.a + x.b then x else z
def bestL (l : List Wt) : Wt := l.foldl bestStep ⟨0, 0, 0, 0⟩
theorem bestL_snoc {l : List Wt} {k : Nat} {x : Wt} (h : l[k]? = some x) : bestL (l.take (k + 1)) = bestStep (bestL (l.take k)) x := by
  unfold bestL
  rw [List.take_add_one, h, Option.toList_some, List.foldl_append]
  rfl
/-- Waits whose numbers are those of a right history. -/
def WtOk (x : Wt) : Prop := 1 ≤ x.a ∧ 1 ≤ x.b ∧ x.a + x.b ≤ 9223372036854775807
theorem waitsL_ok {l : List Ev} (hwf : ∀ e ∈ l, WfE e) : ∀ x ∈ waitsL l, WtOk x := by
  intro x hx
  unfold waitsL at hx
  rw [List.mem_map] at hx
  obtain ⟨c, hc, rfl⟩ := hx
  obtain ⟨_, _, h1, h2, h3, h4⟩ := toldR_at hwf hc
  simp only [WtOk, waitOf]
  omega
theorem bestL_ok {l : List Wt} (h : ∀ x ∈ l, WtOk x) : ∀ k, 0 ≤ (bestL (l.take k)).a ∧ 0 ≤ (bestL (l.take k)).b ∧ (bestL (l.take k)).a + (bestL (l.take k)).b ≤ 9223372036854775807 ∧ ((bestL (l.take k)).a + (bestL (l.take k)).b = 0 → l.take k = [] ∧ bestL (l.take k) = ⟨0, 0, 0, 0⟩)
  | 0 => by simp [bestL]
  | k + 1 => by
    have ih := bestL_ok h k
    cases hk : l[k]? with
    | none =>
      rw [List.take_add_one, hk]
      simpa using ih
    | some x =>
      rw [bestL_snoc hk]
      have hx := h x (List.mem_of_getElem? hk)
      unfold bestStep WtOk at *
      split
      · omega
      · refine ⟨ih.1, ih.2.1, ih.2.2.1, fun h0 => ?_⟩
        omega

/-- All but one block is as it was. -/
def Stays (W w : World) (B : Nat) : Prop := ∀ b o, b < W.heap.size → b ≠ B → w.cell? ⟨b, o, none⟩ = W.cell? ⟨b, o, none⟩
theorem Stays.refl (W : World) (B : Nat) : Stays W W B := fun _ _ _ _ => rfl
theorem Stays.alloc {W w : World} {B : Nat} (h : Stays W w B) (hs : W.heap.size ≤ w.heap.size) (o : Obj) : Stays W (w.alloc o) B := fun b q hb hn => by
  rw [← h b q hb hn]
  exact ((Below.refl w.heap.size w).alloc (Nat.le_refl _) o).cell (p := ⟨b, q, none⟩) (Nat.lt_of_lt_of_le hb hs)
theorem Stays.set {W w : World} {B : Nat} (h : Stays W w B) (o : Nat) (v : Value) : Stays W (w.setCell ⟨B, o, none⟩ v) B := fun b q hb hn => by
  rw [← h b q hb hn]
  have hne : B ≠ b := fun h => hn h.symm
  simp [go_sem, hne, hn]

set_option maxHeartbeats 1600000 in
theorem wait_longest (l : List Ev) (v : Value) (w : World) (hl : EvsAt w v l) (hlen : l.length ≤ 100000000) (hwf : ∀ e ∈ l, WfE e) :
    Calls Try.prog 24 #[v] w fun r w' => r = .returned (.tuple #[wtV (bestL (waitsL l)), .bool (!sameW (bestL (waitsL l)) ⟨0, 0, 0, 0⟩)]) ∧ Below w.heap.size w w' := by
  have HL := Lib.hid hl
  have HW := Lib.hid hwf
  have HOK := Lib.hid (waitsL_ok hwf)
  clear hwf
  obtain ⟨a, ca, rfl, hl1, hl2, hl3, hl4⟩ := hl
  clear hl3 hl4
  unfold maxLen at hl2
  go_enter Try.func24, Try.ntmps24
  go_wp2_with fail
  obtain ⟨W0, hW0⟩ : ∃ W0, (w.alloc (.cells #[.int .i64 0, .int .i64 0, .int .i64 0, .int .i64 0] 37)).alloc (.cells #[.int .i64 0, .int .i64 0, .int .i64 0, .int .i64 0] 37) = W0 := ⟨_, rfl⟩
  have qr : WtBox W0 w.heap.size ⟨0, 0, 0, 0⟩ := by rw [← hW0]; constructor <;> simp [go_sem]
  have qb : WtBox W0 (w.heap.size + 1) ⟨0, 0, 0, 0⟩ := by rw [← hW0]; constructor <;> simp [go_sem]
  have hbw : Below w.heap.size w W0 := by rw [← hW0]; exact ((Below.refl _ _).alloc (Nat.le_refl _) _).alloc (by simp) _
  have hs0 : w.heap.size + 1 < W0.heap.size := by rw [← hW0]; simp
  rw [hW0]
  clear hW0
  refine (wait_waits l _ _ (HL.out.below hbw) hlen HW.out).mono ?_
  rintro r w2 ⟨⟨v2, rfl, h2, hnew⟩, hb2⟩
  have hbel2 := bstep hbw (by omega) hb2
  have HNEW := Lib.hid hnew
  clear hnew
  replace qr := qr.below hb2
  replace qb := qb.below hb2
  have hs2 := hb2.size
  have H2 := Lib.hid h2
  have hle2 := waitsL_le l
  obtain ⟨a2, ca2, rfl, hm1, hm2, hm3, hm4⟩ := h2
  clear hm3 hm4 hb2 hbw
  unfold maxLen at hm2
  have QR := Lib.hid qr
  have QB := Lib.hid qb
  clear qr qb
  have hsw : w.heap.size + 1 < w2.heap.size := by omega
  go_wp2
  go_loopw [10] (fun i wr => ∃ k : Nat, k ≤ (waitsL l).length ∧ i = .int .i64 k ∧ Hid (WtBox wr (w.heap.size + 1) (bestL ((waitsL l).take k))) ∧ Hid (WtBox wr w.heap.size ⟨0, 0, 0, 0⟩) ∧ Hid (Stays w2 wr (w.heap.size + 1)) ∧ w2.heap.size ≤ wr.heap.size ∧ Below w.heap.size w wr) (fun i _ => (waitsL l).length - (intOf i).toNat)
  case atStart => exact ⟨0, Nat.zero_le _, rfl, QB.out, QR.out, Stays.refl _ _, Nat.le_refl _, hbel2⟩
  case round =>
    obtain ⟨k, hk, rfl, HB, HR, HST, hsz, hbel⟩ := hrel
    have hbk := bestL_ok HOK.out k
    obtain ⟨z, hz⟩ : ∃ z, bestL ((waitsL l).take k) = z := ⟨_, rfl⟩
    rw [hz] at hbk HB
    have HZ := Lib.hid hz
    clear hz
    obtain ⟨z1, z2, z3, z4⟩ := z
    obtain ⟨p1, p2, p3, p4⟩ := hbk
    simp only at p1 p2 p3
    have P4 := Lib.hid p4
    clear p4
    obtain ⟨g0, g1, g2, g3, f0, f1, f2, f3⟩ := id HB.out
    simp only at g0 g1 g2 g3
    by_cases hlt : k < (waitsL l).length
    · obtain ⟨b1, o1, x, rfl, hb1, hkx, c1, c2, c3, c4⟩ := WaitsAt.get4 H2.out hlt
      have hbn : b1 ≠ w.heap.size + 1 := by
        have := HNEW.out b1 o1 _ _ rfl
        omega
      rw [← HST.out b1 _ hb1 hbn] at c1 c2 c3 c4
      have hx := HOK.out x (List.mem_of_getElem? hkx)
      have HS := Lib.hid (bestL_snoc hkx)
      obtain ⟨x1, x2, x3, x4⟩ := x
      obtain ⟨y1, y2, y3⟩ := hx
      simp only at y1 y2 y3 c1 c2 c3 c4
      clear hkx hbn
      have hwr : w.heap.size + 1 < wr.heap.size := by omega
      by_cases hgt : z3 + z4 < x3 + x4
      · have hst : bestL ((waitsL l).take (k + 1)) = ⟨x1, x2, x3, x4⟩ := by rw [HS.out, HZ.out]; unfold bestStep; rw [if_pos hgt]
        have HST2 := Lib.hid hst
        clear hst
        go_wp2
        have hne : w.heap.size + 1 ≠ w.heap.size := by omega
        have hle1 : w.heap.size ≤ w.heap.size + 1 := by omega
        have hbel5 := (((hbel.setCell (p := ⟨w.heap.size + 1, 0, none⟩) hle1 (.int .i64 x1)).setCell (p := ⟨w.heap.size + 1, 1, none⟩) hle1 (.int .i64 x2)).setCell (p := ⟨w.heap.size + 1, 2, none⟩) hle1 (.int .i64 x3)).setCell (p := ⟨w.heap.size + 1, 3, none⟩) hle1 (.int .i64 x4)
        refine ⟨⟨k + 1, hlt, by go_num, ?_, ?_, ?_, by simp; omega, hbel5.alloc hbel5.size _⟩, by simp [intOf]; omega⟩
        · rw [HST2.out]
          exact (HB.out.put ⟨x1, x2, x3, x4⟩).below ((Below.refl _ _).alloc (Nat.le_refl _) _)
        · exact ((((HR.out.other hne _ _).other hne _ _).other hne _ _).other hne _ _).below ((Below.refl _ _).alloc (Nat.le_refl _) _)
        · exact ((((HST.out.set _ _).set _ _).set _ _).set _ _).alloc (by simp; omega) _
      · have hst : bestL ((waitsL l).take (k + 1)) = ⟨z1, z2, z3, z4⟩ := by rw [HS.out, HZ.out]; unfold bestStep; rw [if_neg hgt]
        have HST2 := Lib.hid hst
        clear hst
        go_wp2
        refine ⟨⟨k + 1, hlt, by go_num, ?_, ?_, ?_, by simp; omega, hbel.alloc (by omega) _⟩, by simp [intOf]; omega⟩
        · rw [HST2.out]
          exact HB.out.below ((Below.refl _ _).alloc (Nat.le_refl _) _)
        · exact HR.out.below ((Below.refl _ _).alloc (Nat.le_refl _) _)
        · exact HST.out.alloc hsz _
    · obtain rfl : k = (waitsL l).length := by omega
      rw [List.take_length] at HZ
      obtain ⟨e0, e1, e2, e3, n0, n1, n2, n3⟩ := id HR.out
      simp only at e0 e1 e2 e3
      go_wp2
      go_region
      all_goals
        go_wp2
        refine bodyPost_ret (v := .tuple #[.agg #[.int .i64 z1, .int .i64 z2, .int .i64 z3, .int .i64 z4], .bool (!sameW ⟨z1, z2, z3, z4⟩ ⟨0, 0, 0, 0⟩)]) (by simp [results, Try.results24, go_sem, e0, e1, e2, e3]) rfl ⟨?_, ?_⟩
        · rw [HZ.out]
        · exact ((((hbel.setCell (p := ⟨w.heap.size, 0, none⟩) (Nat.le_refl _) _).setCell (p := ⟨w.heap.size, 1, none⟩) (Nat.le_refl _) _).setCell (p := ⟨w.heap.size, 2, none⟩) (Nat.le_refl _) _).setCell (p := ⟨w.heap.size, 3, none⟩) (Nat.le_refl _) _).drew

theorem bestL_none {M : List Wt} (h : ∀ x ∈ M, WtOk x) : sameW (bestL M) ⟨0, 0, 0, 0⟩ = decide (M = []) := by
  have := bestL_ok h M.length
  rw [List.take_length] at this
  rw [Bool.eq_iff_iff, sameW_iff, decide_eq_true_iff]
  constructor
  · intro hb
    exact (this.2.2.2 (by rw [hb]; rfl)).1
  · rintro rfl
    rfl
theorem bestL_first {l : List Wt} {x : Wt} {k : Nat} (h : l[k]? = some x) (hx : WtOk x) (hk : k = 0) : bestL (l.take (k + 1)) = x := by
  rw [bestL_snoc h]
  subst hk
  show (if (0 : Int) + 0 < x.a + x.b then x else ⟨0, 0, 0, 0⟩) = x
  unfold WtOk at hx
  rw [if_pos (by omega)]

set_option maxHeartbeats 1600000 in
theorem ref34_longest (l : List Ev) (v : Value) (w : World) (hl : EvsAt w v l) (hlen : l.length ≤ 100000000) (hwf : ∀ e ∈ l, WfE e) :
    Calls Try.prog 25 #[v] w fun r w' => r = .returned (.tuple #[wtV (bestL (waitsL l)), .bool (!sameW (bestL (waitsL l)) ⟨0, 0, 0, 0⟩)]) ∧ Below w.heap.size w w' := by
  have HL := Lib.hid hl
  have HW := Lib.hid hwf
  have HOK := Lib.hid (waitsL_ok hwf)
  have HNONE := Lib.hid (bestL_none (waitsL_ok hwf))
  clear hwf
  obtain ⟨a, ca, rfl, hl1, hl2, hl3, hl4⟩ := hl
  clear hl3 hl4
  unfold maxLen at hl2
  go_enter Try.func25, Try.ntmps25
  go_wp2_with fail
  obtain ⟨W0, hW0⟩ : ∃ W0, w.alloc (.cells #[.int .i64 0, .int .i64 0, .int .i64 0, .int .i64 0] 37) = W0 := ⟨_, rfl⟩
  have qr : WtBox W0 w.heap.size ⟨0, 0, 0, 0⟩ := by rw [← hW0]; constructor <;> simp [go_sem]
  have hbw : Below w.heap.size w W0 := by rw [← hW0]; exact (Below.refl _ _).alloc (Nat.le_refl _) _
  have hs0 : w.heap.size < W0.heap.size := by rw [← hW0]; simp
  rw [hW0]
  clear hW0
  refine (ref34_waits l _ _ (HL.out.below hbw) hlen HW.out).mono ?_
  rintro r w2 ⟨⟨v2, rfl, h2, hnew⟩, hb2⟩
  have hbel2 := bstep hbw (by omega) hb2
  replace qr := qr.below hb2
  have hs2 := hb2.size
  have H2 := Lib.hid h2
  have hle2 := waitsL_le l
  obtain ⟨a2, ca2, rfl, hm1, hm2, hm3, hm4⟩ := h2
  clear hm3 hm4 hb2 hbw hnew
  unfold maxLen at hm2
  go_wp2
  obtain ⟨W3, hW3⟩ : ∃ W3, w2.alloc (.cells #[.int .i64 0, .int .i64 0, .int .i64 0, .int .i64 0] 37) = W3 := ⟨_, rfl⟩
  have QB : Hid (WtBox W3 w2.heap.size ⟨0, 0, 0, 0⟩) := by rw [← hW3]; constructor <;> simp [go_sem]
  have hbel3 : Below w2.heap.size w2 W3 := by rw [← hW3]; exact (Below.refl _ _).alloc (Nat.le_refl _) _
  have hs3 : w2.heap.size < W3.heap.size := by rw [← hW3]; simp
  have QR := Lib.hid qr
  clear qr
  rw [hW3]
  clear hW3
  go_loopw [6] (fun i wr => ∃ k : Nat, k ≤ (waitsL l).length ∧ i = .int .i64 k ∧ Hid (WtBox wr w2.heap.size (bestL ((waitsL l).take k))) ∧ Below w2.heap.size w2 wr) (fun i _ => (waitsL l).length - (intOf i).toNat)
  case atStart => exact ⟨0, Nat.zero_le _, rfl, QB.out, hbel3⟩
  case round =>
    obtain ⟨k, hk, rfl, HB, hbel⟩ := hrel
    have hsz := hbel.size
    have hbk := bestL_ok HOK.out k
    obtain ⟨z, hz⟩ : ∃ z, bestL ((waitsL l).take k) = z := ⟨_, rfl⟩
    rw [hz] at hbk HB
    have HZ := Lib.hid hz
    clear hz
    obtain ⟨z1, z2, z3, z4⟩ := z
    obtain ⟨p1, p2, p3, p4⟩ := hbk
    simp only at p1 p2 p3
    clear p4
    obtain ⟨g0, g1, g2, g3, f0, f1, f2, f3⟩ := id HB.out
    simp only at g0 g1 g2 g3
    by_cases hlt : k < (waitsL l).length
    · obtain ⟨b1, o1, x, rfl, hb1, hkx, c1, c2, c3, c4⟩ := WaitsAt.get4 H2.out hlt
      rw [← hbel.cell (p := ⟨b1, _, none⟩) hb1] at c1 c2 c3 c4
      have hx := HOK.out x (List.mem_of_getElem? hkx)
      have HF := Lib.hid (bestL_first hkx hx)
      have HS := Lib.hid (bestL_snoc hkx)
      obtain ⟨x1, x2, x3, x4⟩ := x
      obtain ⟨y1, y2, y3⟩ := hx
      simp only at y1 y2 y3 c1 c2 c3 c4
      clear hkx
      have i0 : (0 : Int) ≤ (k : Int) := by omega
      have i1 : (k : Int) < (waitsL l).length := by omega
      have wa : IntKind.i64.wrap (x3 + x4) = x3 + x4 := IntWalk.i64_in _ (by omega)
      have wb : IntKind.i64.wrap (z3 + z4) = z3 + z4 := IntWalk.i64_in _ (by omega)
      have hbel5 := (((hbel.setCell (p := ⟨w2.heap.size, 0, none⟩) (Nat.le_refl _) (.int .i64 x1)).setCell (p := ⟨w2.heap.size, 1, none⟩) (Nat.le_refl _) (.int .i64 x2)).setCell (p := ⟨w2.heap.size, 2, none⟩) (Nat.le_refl _) (.int .i64 x3)).setCell (p := ⟨w2.heap.size, 3, none⟩) (Nat.le_refl _) (.int .i64 x4)
      cases hd : ((k : Int) == 0) with
      | true =>
        have hst := HF.out (by have : (k : Int) = 0 := by simpa using hd
                               omega)
        have HST2 := Lib.hid hst
        clear hst HF HS
        go_wp2
        go_quiet (fail)
        go_wp2
        refine ⟨⟨k + 1, hlt, by go_num, ?_, below_drewN hbel5 _⟩, by simp [intOf]; omega⟩
        rw [HST2.out]
        exact (HB.out.put ⟨x1, x2, x3, x4⟩).below (below_drewN (Below.refl _ _) _)
      | false =>
        clear HF
        by_cases hgt : z3 + z4 < x3 + x4
        · have hst : bestL ((waitsL l).take (k + 1)) = ⟨x1, x2, x3, x4⟩ := by rw [HS.out, HZ.out]; unfold bestStep; rw [if_pos hgt]
          have HST2 := Lib.hid hst
          clear hst HS
          go_wp2
          go_quiet (fail)
          go_wp2
          refine ⟨⟨k + 1, hlt, by go_num, ?_, below_drewN hbel5 _⟩, by simp [intOf]; omega⟩
          rw [HST2.out]
          exact (HB.out.put ⟨x1, x2, x3, x4⟩).below (below_drewN (Below.refl _ _) _)
        · have hst : bestL ((waitsL l).take (k + 1)) = ⟨z1, z2, z3, z4⟩ := by rw [HS.out, HZ.out]; unfold bestStep; rw [if_neg hgt]
          have HST2 := Lib.hid hst
          clear hst HS
          go_wp2
          go_quiet (fail)
          go_wp2
          refine ⟨⟨k + 1, hlt, by go_num, ?_, below_drewN hbel _⟩, by simp [intOf]; omega⟩
          rw [HST2.out]
          exact HB.out.below (below_drewN (Below.refl _ _) _)
    · obtain rfl : k = (waitsL l).length := by omega
      rw [List.take_length] at HZ
      have hwr : w.heap.size < wr.heap.size := by omega
      obtain ⟨e0, e1, e2, e3, n0, n1, n2, n3⟩ := QR.out.below hbel
      simp only at e0 e1 e2 e3
      go_wp2
      refine bodyPost_ret (v := .tuple #[.agg #[.int .i64 z1, .int .i64 z2, .int .i64 z3, .int .i64 z4], .bool (decide (0 < (waitsL l).length))]) (by simp [results, Try.results25, go_sem, e0, e1, e2, e3]) rfl ⟨?_, ?_⟩
      · have hd : decide (0 < (waitsL l).length) = !sameW (bestL (waitsL l)) ⟨0, 0, 0, 0⟩ := by
          rw [HNONE.out]
          cases waitsL l <;> simp
        rw [hd, HZ.out]
      · exact (((((bstep hbel2 (Nat.le_refl _) hbel).setCell (p := ⟨w.heap.size, 0, none⟩) (Nat.le_refl _) _).setCell (p := ⟨w.heap.size, 1, none⟩) (Nat.le_refl _) _).setCell (p := ⟨w.heap.size, 2, none⟩) (Nat.le_refl _) _).setCell (p := ⟨w.heap.size, 3, none⟩) (Nat.le_refl _) _)

end Go.Proofs.Yteaahepjendjmaa
