/- Walks of package hist and of its reference: what each function returns; memory that was there stays as it was. -/
import Derived.Test.YteaahepjendjmaaStrips
import Derived.Laws.EntriesVeiled
namespace Go.Proofs.Yteaahepjendjmaa
open Go.RowKit
set_option linter.unusedVariables false
set_option linter.unusedSimpArgs false

/-- An event: its kind, its arm, its number, its time. -/
structure Ev where
  k : Int
  w : Int
  n : Int
  t : Int
deriving DecidableEq, Inhabited
def evRow (e : Ev) : List Value := [.int .i64 e.k, .int .i64 e.w, .int .i64 e.n, .int .i64 e.t]
def callRow (c : Int × Int) : List Value := [.int .i64 c.1, .int .i64 c.2]
theorem evRow_len (e : Ev) : (evRow e).length = 4 := rfl
theorem callRow_len (c : Int × Int) : (callRow c).length = 2 := rfl
theorem callRow_one (c : Int × Int) : ∀ u ∈ callRow c, u.oneCell' = true := by intro u hu; simp [callRow] at hu; rcases hu with rfl | rfl <;> rfl
abbrev EvsAt (w : World) (v : Value) (l : List Ev) : Prop := RowsAt 4 evRow w v l
abbrev CallsAt (w : World) (v : Value) (l : List (Int × Int)) : Prop := RowsAt 2 callRow w v l
abbrev OwnCalls (w : World) (base : Nat) (v : Value) (l : List (Int × Int)) : Prop := OwnRows 31 2 callRow w base v l
abbrev evV (e : Ev) : Value := .agg #[.int .i64 e.k, .int .i64 e.w, .int .i64 e.n, .int .i64 e.t]
abbrev callV (c : Int × Int) : Value := .agg #[.int .i64 c.1, .int .i64 c.2]

theorem EvsAt.get4 {w : World} {a : Option Addr} {n cap k : Nat} {l : List Ev} (h : EvsAt w (.slice a n cap) l) (hk : k < l.length) :
    ∃ b off e, a = some ⟨b, off, none⟩ ∧ b < w.heap.size ∧ l[k]? = some e ∧ w.cell? ⟨b, off + k * 4, none⟩ = some (.int .i64 e.k) ∧ w.cell? ⟨b, off + k * 4 + 1, none⟩ = some (.int .i64 e.w) ∧
      w.cell? ⟨b, off + k * 4 + 2, none⟩ = some (.int .i64 e.n) ∧ w.cell? ⟨b, off + k * 4 + 3, none⟩ = some (.int .i64 e.t) := by
  obtain ⟨b, off, ha, hb, hc⟩ := h.get (List.getElem?_eq_getElem hk)
  exact ⟨b, off, l[k], ha, hb, List.getElem?_eq_getElem hk, hc 0 _ rfl, hc 1 _ rfl, hc 2 _ rfl, hc 3 _ rfl⟩
theorem CallsAt.get2 {w : World} {a : Option Addr} {n cap k : Nat} {l : List (Int × Int)} (h : CallsAt w (.slice a n cap) l) (hk : k < l.length) :
    ∃ b off c, a = some ⟨b, off, none⟩ ∧ b < w.heap.size ∧ l[k]? = some c ∧ w.cell? ⟨b, off + k * 2, none⟩ = some (.int .i64 c.1) ∧ w.cell? ⟨b, off + k * 2 + 1, none⟩ = some (.int .i64 c.2) := by
  obtain ⟨b, off, ha, hb, hc⟩ := h.get (List.getElem?_eq_getElem hk)
  exact ⟨b, off, l[k], ha, hb, List.getElem?_eq_getElem hk, hc 0 _ rfl, hc 1 _ rfl⟩

def ofE (e : Ev) : Int × Int := (e.w, e.n)
/-- Are two calls the same? -/
def sameC (a b : Int × Int) : Bool := a.1 == b.1 && a.2 == b.2
theorem sameC_iff (a b : Int × Int) : sameC a b = true ↔ a = b := by
  obtain ⟨a1, a2⟩ := a
  obtain ⟨b1, b2⟩ := b
  simp [sameC]

/-- Two calls held against each other. -/
theorem call_eq_run (a b c d : Int) (w : World) : (Op.equalIn 10000 31 (.agg #[.int .i64 a, .int .i64 b]) (.agg #[.int .i64 c, .int .i64 d])).run Try.prog w = .ok (a == c && b == d) w := by
  have hS : Try.prog.underlying 31 = some (.struct (Try.prog.fieldsOf 31)) := by kernel_rfl
  have hp : Try.prog.stoodInHeld 31 = false := by kernel_rfl
  have u := Try.underlying3
  rw [show (10000 : Nat) = 9999 + 1 from rfl, run_equalIn_agg w 9999 31 _ _ hS hp]
  simp only [Program.fieldsOf, Try.underlying31]
  go_simp
  by_cases h1 : a = c <;> by_cases h2 : b = d <;> simp [h1, h2]
@[go_sem high] theorem call_eql (a b c d : Int) (w : World) : (binOp .eql 31 (.agg #[.int .i64 a, .int .i64 b]) (.agg #[.int .i64 c, .int .i64 d])).run Try.prog w = .ok (.bool (a == c && b == d)) w := by
  rw [run_eql_struct, call_eq_run]
  rfl
@[go_sem high] theorem call_neq (a b c d : Int) (w : World) : (binOp .neq 31 (.agg #[.int .i64 a, .int .i64 b]) (.agg #[.int .i64 c, .int .i64 d])).run Try.prog w = .ok (.bool (!(a == c && b == d))) w := by
  rw [run_neq_struct, call_eq_run]
  rfl

set_option maxHeartbeats 400000 in
theorem hist_callOf (e : Ev) (w : World) : Calls Try.prog 47 #[evV e] w fun r w' => r = .returned (callV (ofE e)) ∧ Below w.heap.size w w' := by
  go_enter Try.func47, Try.ntmps47
  go_wp2
  refine bodyPost_ret (v := callV (ofE e)) (by simp [results, Try.results47, go_sem, ofE]) rfl ⟨rfl, ?_⟩
  exact ((Below.refl _ _).alloc (Nat.le_refl _) _).alloc (by simp) _
set_option maxHeartbeats 400000 in
theorem ref19_of (e : Ev) (w : World) : Calls Try.prog 37 #[evV e] w fun r w' => r = .returned (callV (ofE e)) ∧ Below w.heap.size w w' := by
  go_enter Try.func37, Try.ntmps37
  go_wp2
  refine bodyPost_ret (v := callV (ofE e)) (by simp [results, Try.results37, go_sem, ofE]) rfl ⟨rfl, ?_⟩
  exact ((Below.refl _ _).alloc (Nat.le_refl _) _).alloc (by simp) _

set_option maxHeartbeats 400000 in
theorem hist_kind1 (e : Ev) (k : Int) (B : Nat) (w : World) (hc : w.cell? ⟨B, 0, none⟩ = some (.int .i64 k)) :
    Calls Try.prog 46 #[evV e, .pointer (some ⟨B, 0, none⟩)] w fun r w' => r = .returned (.bool (e.k == k)) ∧ Below w.heap.size w w' := by
  have hb1 := World.block_lt_of_cell? _ _ hc
  simp at hb1
  go_enter Try.func46, Try.ntmps46
  go_wp2
  go_ret
  exact ⟨rfl, (Below.refl _ _).alloc (Nat.le_refl _) _⟩

set_option maxHeartbeats 400000 in
theorem hist_of1 (e : Ev) (k : Int) (c : Int × Int) (B B' : Nat) (w : World) (hc : w.cell? ⟨B, 0, none⟩ = some (.int .i64 k)) (h0 : w.cell? ⟨B', 0, none⟩ = some (.int .i64 c.1)) (h1 : w.cell? ⟨B', 1, none⟩ = some (.int .i64 c.2)) :
    Calls Try.prog 48 #[evV e, .pointer (some ⟨B, 0, none⟩), .pointer (some ⟨B', 0, none⟩)] w fun r w' => r = .returned (.bool (e.k == k && sameC (ofE e) c)) ∧ Below w.heap.size w w' := by
  have hb1 := World.block_lt_of_cell? _ _ hc
  have hb2 := World.block_lt_of_cell? _ _ h0
  simp at hb1 hb2
  by_cases hk : e.k = k
  · have hd : (e.k == k) = true := by simpa using hk
    clear hk
    go_enter Try.func48, Try.ntmps48
    go_wp2
    go_region_held3 (fun w' => Below (w.alloc (.cells #[.int .i64 e.k, .int .i64 e.w, .int .i64 e.n, .int .i64 e.t] 48)).heap.size (w.alloc (.cells #[.int .i64 e.k, .int .i64 e.w, .int .i64 e.n, .int .i64 e.t] 48)) w' ∧ (∀ b o, b < (w.alloc (.cells #[.int .i64 e.k, .int .i64 e.w, .int .i64 e.n, .int .i64 e.t] 48)).heap.size → w'.cell? ⟨b, o, none⟩ = (w.alloc (.cells #[.int .i64 e.k, .int .i64 e.w, .int .i64 e.n, .int .i64 e.t] 48)).cell? ⟨b, o, none⟩) ∧ ∀ b o, b < (w.alloc (.cells #[.int .i64 e.k, .int .i64 e.w, .int .i64 e.n, .int .i64 e.t] 48)).heap.size → w'.frozen? ⟨b, o, none⟩ = (w.alloc (.cells #[.int .i64 e.k, .int .i64 e.w, .int .i64 e.n, .int .i64 e.t] 48)).frozen? ⟨b, o, none⟩)
      (first | exact Keeps.atDraw _ | exact hB | exact Keeps.new hB _ | exact Keeps.new (by assumption) _)
      ((refine (hist_callOf e _).mono ?_; rintro r w1 ⟨rfl, hb⟩; have hB := Keeps.call hb (by assumption)))
    go_wp2
    go_ret
    exact ⟨ret_bool (by rw [hd]; rfl), of_alloc hB.1⟩
  · have hd : (e.k == k) = false := by simpa using hk
    clear hk
    go_enter Try.func48, Try.ntmps48
    go_wp2
    go_quiet (fail)
    go_wp2
    go_ret
    exact ⟨ret_bool (by rw [hd]; rfl), below_drewN ((Below.refl _ _).alloc (Nat.le_refl _) _) _⟩

set_option maxHeartbeats 400000 in
theorem hist_kind (k : Int) (w : World) : Calls Try.prog 35 #[.int .i64 k] w fun r w' => ∃ B, r = .returned (.agg #[.func (.func 46) #[] #[.pointer (some ⟨B, 0, none⟩)]]) ∧ w'.cell? ⟨B, 0, none⟩ = some (.int .i64 k) ∧ Below w.heap.size w w' := by
  have hmf : ∀ (fn : Fn) (first cap : Array Value) (w : World), (Instr.makeFunc fn first cap).run Try.prog w = .ok (.func fn first cap) w := fun _ _ _ _ => rfl
  go_enter Try.func35, Try.ntmps35
  go_wp2
  refine bodyPost_ret (v := .agg #[.func (.func 46) #[] #[.pointer (some ⟨w.heap.size, 0, none⟩)]]) (by simp [results, Try.results35, go_sem]) rfl ⟨_, rfl, by simp [go_sem], ?_⟩
  exact ((Below.refl _ _).alloc (Nat.le_refl _) _).alloc (by simp) _

set_option maxHeartbeats 400000 in
theorem hist_of (k : Int) (c : Int × Int) (w : World) : Calls Try.prog 38 #[.int .i64 k, callV c] w fun r w' => ∃ B B', r = .returned (.agg #[.func (.func 48) #[] #[.pointer (some ⟨B, 0, none⟩), .pointer (some ⟨B', 0, none⟩)]]) ∧
    w'.cell? ⟨B, 0, none⟩ = some (.int .i64 k) ∧ w'.cell? ⟨B', 0, none⟩ = some (.int .i64 c.1) ∧ w'.cell? ⟨B', 1, none⟩ = some (.int .i64 c.2) ∧ Below w.heap.size w w' := by
  have hmf : ∀ (fn : Fn) (first cap : Array Value) (w : World), (Instr.makeFunc fn first cap).run Try.prog w = .ok (.func fn first cap) w := fun _ _ _ _ => rfl
  go_enter Try.func38, Try.ntmps38
  go_wp2
  refine bodyPost_ret (v := .agg #[.func (.func 48) #[] #[.pointer (some ⟨w.heap.size, 0, none⟩), .pointer (some ⟨w.heap.size + 1, 0, none⟩)]]) (by simp [results, Try.results38, go_sem]) rfl ⟨_, _, rfl, by simp [go_sem], by simp [go_sem], by simp [go_sem], ?_⟩
  exact (((Below.refl _ _).alloc (Nat.le_refl _) _).alloc (by simp) _).alloc (by simp; omega) _

/-- A function of the program's own text is entered. -/
def Enters (F : Nat) : Prop := ∀ (args : Array Value) (W : World), (callFunc F args).run Try.prog W = .ok (.enter F args) W
theorem enters {F : Nat} {fn : Func} {c : Code} (hf : Try.prog.funcs[F]? = some fn) (hn : (fn.name == "runtime.NumGoroutine") = false) (hb : fn.body = some c) : Enters F := by
  intro args W
  have h1 : fn.name ≠ "runtime.NumGoroutine" := by simpa using hn
  simp [callFunc, hf, h1, hb]

/-- What a call gives that gives calls. -/
def GivesCalls (w : World) (l : List (Int × Int)) (r : Ending) (w' : World) : Prop := (∃ v, r = .returned v ∧ CallsAt w' v l) ∧ Below w.heap.size w w'
/-- The contract of a choice. -/
def Wants (w : World) (F : Nat) (caps : Array Value) (p : Ev → Bool) : Prop := ∀ e W, Below w.heap.size w W → Calls Try.prog F (#[evV e] ++ caps) W fun r W' => r = .returned (.bool (p e)) ∧ Below W.heap.size W W'
def callsE (p : Ev → Bool) (l : List Ev) : List (Int × Int) := (l.filter p).map ofE
def firstE (p : Ev → Bool) (l : List Ev) : Option Nat := firstIdx (fun i => p (l.getD i default)) l.length
theorem callsE_snoc (p : Ev → Bool) {l : List Ev} {k : Nat} {e : Ev} (h : l[k]? = some e) : callsE p (l.take (k + 1)) = callsE p (l.take k) ++ (if p e then [ofE e] else []) := by
  unfold callsE
  rw [List.take_add_one, h, Option.toList_some, List.filter_append, List.map_append]
  congr 1
  cases hp : p e <;> simp [hp]
theorem callsE_le (p : Ev → Bool) (l : List Ev) : (callsE p l).length ≤ l.length := by
  unfold callsE
  rw [List.length_map]
  exact List.length_filter_le _ _

set_option maxHeartbeats 400000 in
theorem pick_first (p : Ev → Bool) (F : Nat) (hF : Enters F) (caps : Array Value) (l : List Ev) (v : Value) (w : World) (hl : EvsAt w v l) (hp : Wants w F caps p) :
    Calls Try.prog 39 #[.agg #[.func (.func F) #[] caps], v] w fun r w' => r = .returned (idxVal (firstE p l)) ∧ Below w.heap.size w w' := by
  have hcf : ∀ (args : Array Value) (W : World), (callFunc F args).run Try.prog W = .ok (.enter F args) W := hF
  have HP := Lib.hid hp
  have hlw := hl
  obtain ⟨a, ca, rfl, hl1, hl2, hl3, hl4⟩ := hl
  clear hl3 hl4 hp
  unfold maxLen at hl2
  go_enter Try.func39, Try.ntmps39
  go_wp2
  obtain ⟨W0, hW0⟩ : ∃ W0, w.alloc (.cells #[.func (.func F) #[] caps] 53) = W0 := ⟨_, rfl⟩
  have c0 : W0.cell? ⟨w.heap.size, 0, none⟩ = some (.func (.func F) #[] caps) := by rw [← hW0]; simp [go_sem]
  have hs0 : w.heap.size < W0.heap.size := by rw [← hW0]; simp
  have hbw : Below w.heap.size w W0 := by rw [← hW0]; exact (Below.refl _ _).alloc (Nat.le_refl _) _
  have HL := Lib.hid (hlw.below hbw)
  clear hlw
  rw [hW0]
  clear hW0
  go_loopw [10] (fun i wr => ∃ k : Nat, k ≤ l.length ∧ i = .int .i64 k ∧ NoneYet (fun j => p (l.getD j default)) k ∧ Below W0.heap.size W0 wr) (fun i _ => l.length - (intOf i).toNat)
  case atStart => exact ⟨0, Nat.zero_le _, rfl, NoneYet.zero _, Below.refl _ _⟩
  case round =>
    obtain ⟨k, hk, rfl, hs, hbel⟩ := hrel
    rw [← hbel.cell (p := ⟨w.heap.size, 0, none⟩) hs0] at c0
    by_cases hlt : k < l.length
    · obtain ⟨b1, o1, e, rfl, hb1, hke, c1, c2, c3, c4⟩ := EvsAt.get4 HL.out hlt
      rw [← hbel.cell (p := ⟨b1, _, none⟩) hb1] at c1 c2 c3 c4
      have hpk : p (l.getD k default) = p e := by rw [List.getD_eq_getElem?_getD, hke]; rfl
      have HK := Lib.hid hpk
      have HKE := Lib.hid hke
      have hsz := hbel.size
      have hsw : w.heap.size < wr.heap.size := by omega
      clear hpk hke
      go_wp2_with fail
      refine (HP.out e _ (hbw.trans ((hbel.mono (Nat.le_of_lt hs0)).alloc (by omega) _))).mono ?_
      rintro r w1 ⟨rfl, hb⟩
      cases hpx : p e with
      | true =>
        go_wp2
        go_ret2
        exact ⟨by unfold firstE; rw [firstIdx_some hs hlt (by rw [HK.out]; exact hpx)]; rfl, hbw.trans ((bstep1 hbel (Nat.le_refl _) hb).mono (Nat.le_of_lt hs0))⟩
      | false =>
        go_wp2
        exact ⟨⟨k + 1, hlt, by go_num, hs.succ (by rw [HK.out]; exact hpx), bstep1 hbel (Nat.le_refl _) hb⟩, by simp [intOf]; omega⟩
    · obtain rfl : k = l.length := by omega
      go_wp2
      go_ret2
      exact ⟨by unfold firstE; rw [firstIdx_none hs]; rfl, hbw.trans (hbel.mono (Nat.le_of_lt hs0))⟩

theorem infoCall : (Try.prog.info? 31).map (fun i => (i.zero, i.size, i.bytes)) = some (some (.agg #[.int .i64 0, .int .i64 0]), 2, 16) := by kernel_rfl

set_option maxHeartbeats 800000 in
theorem pick_calls (p : Ev → Bool) (F : Nat) (hF : Enters F) (caps : Array Value) (l : List Ev) (v : Value) (w : World) (hl : EvsAt w v l) (hlen : l.length ≤ 100000000) (hp : Wants w F caps p) :
    Calls Try.prog 36 #[.agg #[.func (.func F) #[] caps], v] w fun r w' => GivesCalls w (callsE p l) r w' := by
  have hcf : ∀ (args : Array Value) (W : World), (callFunc F args).run Try.prog W = .ok (.enter F args) W := hF
  have HP := Lib.hid hp
  have hlw := hl
  obtain ⟨a, ca, rfl, hl1, hl2, hl3, hl4⟩ := hl
  clear hl3 hl4 hp
  unfold maxLen at hl2
  go_enter Try.func36, Try.ntmps36
  go_wp2
  obtain ⟨W0, hW0⟩ : ∃ W0, w.alloc (.cells #[.func (.func F) #[] caps] 53) = W0 := ⟨_, rfl⟩
  have c0 : W0.cell? ⟨w.heap.size, 0, none⟩ = some (.func (.func F) #[] caps) := by rw [← hW0]; simp [go_sem]
  have hs0 : w.heap.size < W0.heap.size := by rw [← hW0]; simp
  have hbw : Below w.heap.size w W0 := by rw [← hW0]; exact (Below.refl _ _).alloc (Nat.le_refl _) _
  have HL := Lib.hid (hlw.below hbw)
  clear hlw
  rw [hW0]
  clear hW0
  go_loopw [5, 10] (fun o i wr => ∃ k : Nat, k ≤ l.length ∧ i = .int .i64 k ∧ Hid (OwnCalls wr W0.heap.size o (callsE p (l.take k))) ∧ Below W0.heap.size W0 wr) (fun _ i _ => l.length - (intOf i).toNat)
  case atStart => exact ⟨0, Nat.zero_le _, rfl, OwnRows.nil _ _ _ _ _, Below.refl _ _⟩
  case round =>
    obtain ⟨k, hk, rfl, HO, hbel⟩ := hrel
    rw [← hbel.cell (p := ⟨w.heap.size, 0, none⟩) hs0] at c0
    by_cases hlt : k < l.length
    · obtain ⟨b1, o1, e, rfl, hb1, hke, c1, c2, c3, c4⟩ := EvsAt.get4 HL.out hlt
      rw [← hbel.cell (p := ⟨b1, _, none⟩) hb1] at c1 c2 c3 c4
      have HS := Lib.hid (callsE_snoc p hke)
      have hsz := hbel.size
      have hsw : w.heap.size < wr.heap.size := by omega
      have hle : (callsE p (l.take k)).length ≤ l.length := Nat.le_trans (callsE_le p _) (by rw [List.length_take]; omega)
      clear hke
      go_wp2_with fail
      refine (HP.out e _ (hbw.trans ((hbel.mono (Nat.le_of_lt hs0)).alloc (by omega) _))).mono ?_
      rintro r w1 ⟨rfl, hb⟩
      have hbel1 := bstep1 hbel (Nat.le_refl _) hb
      have HO1 := Lib.hid ((HO.out.alloc _).below hb)
      obtain ⟨hc, hf⟩ := bcell hb
      cases hpx : p e with
      | true =>
        go_wp2_with fail
        refine (hist_callOf e _).mono ?_
        rintro r w2 ⟨rfl, hb2⟩
        have hbel2 := bstep hbel1 (Nat.le_refl _) hb2
        have HO2 := Lib.hid (HO1.out.below hb2)
        clear hc hf HO1 HO
        go_wp2_with (at_builtin; refine wpList_append_rows callRow_len callRow_one rfl (.tmp 18) (.tmp 21) 26 rfl W0.heap.size 31 _ 16 Try.underlying26 infoCall rfl (by decide) (by decide) _ _ rfl (HO2.out.alloc _) _ [ofE e] rfl (RowsAt.lit callRow_len _ _ [ofE e] (by simp [maxLen])) ?_ ?_ ?_)
        · simp only [List.length_singleton]
          omega
        · have := hbel2.size
          simp
          omega
        intro v1 w3 hown3 hg3 hb3
        have hbel3 : Below W0.heap.size W0 w3 := (hbel2.alloc hbel2.size _).trans hb3
        clear hg3 hb3
        go_wp2
        refine ⟨⟨k + 1, hlt, by go_num, ?_, hbel3⟩, by simp [intOf]; omega⟩
        rw [HS.out, hpx, if_pos rfl]
        exact hown3
      | false =>
        go_wp2
        refine ⟨⟨k + 1, hlt, by go_num, ?_, hbel1⟩, by simp [intOf]; omega⟩
        rw [HS.out, hpx, if_neg (by simp), List.append_nil]
        exact HO1.out
    · obtain rfl : k = l.length := by omega
      rw [List.take_length] at HO
      go_wp2
      go_ret
      exact ⟨⟨_, rfl, OwnRows.rows callRow_len HO.out⟩, hbw.trans (hbel.mono (Nat.le_of_lt hs0))⟩

end Go.Proofs.Yteaahepjendjmaa
