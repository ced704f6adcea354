/- Walks of hist.Right and of its reference. -/
import Derived.Test.YteaahepjendjmaaHistRef
namespace Go.Proofs.Yteaahepjendjmaa
open Go.RowKit
set_option linter.unusedVariables false
set_option linter.unusedSimpArgs false

/-- One event on: how many each arm had, and the last time. -/
def rightStep (s : List Nat × Int) (e : Ev) : Option (List Nat × Int) :=
  if s.2 < e.t ∧ 1 ≤ e.w ∧ e.w ≤ 8 then
    if e.k = ((s.1.getD e.w.toNat 0 % 3 + 1 : Nat) : Int) ∧ e.n = ((s.1.getD e.w.toNat 0 / 3 + 1 : Nat) : Int) then some (s.1.set e.w.toNat (s.1.getD e.w.toNat 0 + 1), e.t) else none
  else none
def rightSt (l : List Ev) : Option (List Nat × Int) := l.foldl (fun s e => s.bind fun s => rightStep s e) (some (List.replicate 9 0, 0))
def rightB (l : List Ev) : Bool := (rightSt l).isSome
theorem rightSt_snoc {l : List Ev} {k : Nat} {e : Ev} (h : l[k]? = some e) : rightSt (l.take (k + 1)) = (rightSt (l.take k)).bind fun s => rightStep s e := by
  unfold rightSt
  rw [List.take_add_one, h, Option.toList_some, List.foldl_append]
  rfl
theorem foldl_none (l : List Ev) : l.foldl (fun (s : Option (List Nat × Int)) e => s.bind fun s => rightStep s e) none = none := by
  induction l with
  | nil => rfl
  | cons e l ih => exact ih
theorem rightSt_none {l : List Ev} {k : Nat} (h : rightSt (l.take k) = none) : rightSt l = none := by
  unfold rightSt at h ⊢
  conv => lhs; rw [← List.take_append_drop k l]
  rw [List.foldl_append, h]
  exact foldl_none _

/-- A table of numbers in a block of the call's own. -/
abbrev TabAt (w : World) (base B n : Nat) (cs : List Nat) : Prop := w.ownsRow base 50 1 (.slice (some ⟨B, 0, none⟩) n n) n (cs.map fun (c : Nat) => Value.int .i64 (c : Int))

/-- A place of a table of nine. -/
@[go_sem high] theorem idx9 (b x : Nat) (kd : IntKind) (w : World) (hx : x < 9) : (Instr.indexAt 50 (.pointer (some ⟨b, 0, none⟩)) (.int kd (x : Int))).run Try.prog w = .ok (.pointer (some ⟨b, x, none⟩)) w := by
  have h1 : Try.prog.arrayLen 50 = 9 := by kernel_rfl
  have h2 : Try.prog.elem 50 = 3 := by kernel_rfl
  have h3 : Try.prog.underlying 50 = some (.array (Try.prog.arrayLen 50) (Try.prog.elem 50)) := by kernel_rfl
  simp only [run_indexAt_array _ _ _ _ _ h3]
  rw [if_pos (by rw [h1]; omega), h2]
  have hs : (sizeOf 3).run Try.prog w = .ok 1 w := by go_simp
  rw [hs]
  simp only [Result.andThen_ok]
  rw [Int.toNat_natCast, Nat.mul_one]
  unfold Addr.add
  split
  · next h0 => subst h0; rfl
  · simp

set_option maxHeartbeats 1600000 in
theorem hist_right (l : List Ev) (v : Value) (w : World) (hl : EvsAt w v l) (hlen : l.length ≤ 100000000) :
    Calls Try.prog 11 #[v] w fun r w' => r = .returned (.bool (rightB l)) ∧ Below w.heap.size w w' := by
  have HL := Lib.hid hl
  obtain ⟨a, ca, rfl, hl1, hl2, hl3, hl4⟩ := hl
  clear hl3 hl4
  unfold maxLen at hl2
  go_enter Try.func11, Try.ntmps11
  go_wp2
  go_loopw [4, 9] (fun was i wr => ∃ (k : Nat) (cs : List Nat) (ws : Int), k ≤ l.length ∧ i = .int .i64 k ∧ was = .int .i64 ws ∧ Hid (rightSt (l.take k) = some (cs, ws)) ∧ cs.length = 9 ∧ Hid (∀ c ∈ cs, c ≤ k) ∧ Hid (TabAt wr w.heap.size w.heap.size 9 cs) ∧ Below w.heap.size w wr) (fun _ i _ => l.length - (intOf i).toNat)
  case atStart =>
    refine ⟨0, List.replicate 9 0, 0, Nat.zero_le _, rfl, rfl, rfl, by simp, fun c hc => by simp at hc; omega, ?_, (Below.refl _ _).alloc (Nat.le_refl _) _⟩
    exact World.ownsRow_lit (base := w.heap.size) (e := 50) (size := 1) w ((List.replicate 9 (0 : Nat)).map fun (c : Nat) => Value.int .i64 (c : Int)).toArray 9 (Nat.le_refl _) (by simp [maxLen]) (by simp)
  case round =>
    obtain ⟨k, cs, ws, hk, rfl, rfl, HR, hcs, HC, HT, hbel⟩ := hrel
    by_cases hlt : k < l.length
    · obtain ⟨b1, o1, e, rfl, hb1, hke, c1, c2, c3, c4⟩ := EvsAt.get4 HL.out hlt
      rw [← hbel.cell (p := ⟨b1, _, none⟩) hb1] at c1 c2 c3 c4
      have hsz := hbel.size
      have HS := Lib.hid (rightSt_snoc hke)
      obtain ⟨ek, ew, en, et⟩ := e
      simp only at c1 c2 c3 c4
      by_cases h1 : ws < et
      · by_cases h2 : 1 ≤ ew ∧ ew ≤ 8
        · obtain ⟨x, rfl⟩ : ∃ x : Nat, ew = x := ⟨ew.toNat, by omega⟩
          have hx9 : x < 9 := by omega
          obtain ⟨m, hm⟩ : ∃ m, cs.getD x 0 = m := ⟨_, rfl⟩
          have t1 := World.ownsRow.cellAt HT.out x (by omega)
          have t2 := World.ownsRow.frozenAt HT.out x
          rw [List.getElem?_map, List.getElem?_eq_getElem (by omega), Option.map_some, show cs[x] = m from by rw [← hm]; simp [hcs, hx9]] at t1
          have hmk : m ≤ k := HC.out m (by rw [← hm, List.getD_eq_getElem?_getD, List.getElem?_eq_getElem (by omega)]; exact List.getElem_mem _)
          have HM := Lib.hid hm
          clear hm
          have hw : w.heap.size < wr.heap.size := World.block_lt_of_cell? _ _ t1
          have hidx : ∀ W, (Instr.indexAt 50 (.pointer (some ⟨w.heap.size, 0, none⟩)) (.int .i64 (x : Int))).run Try.prog W = .ok (.pointer (some ⟨w.heap.size, x, none⟩)) W := fun W => idx9 _ _ _ _ hx9
          cases hd : (ek != 1 + (m : Int) % 3) with
          | true =>
            have hn : rightSt l = none := rightSt_none (k := k + 1) (by
              rw [HS.out, HR.out, Option.bind_some, rightStep, if_pos ⟨h1, h2.1, h2.2⟩, if_neg]
              rintro ⟨h4, _⟩
              simp only [Int.toNat_natCast, HM.out] at h4
              rw [bne_iff_ne] at hd
              apply hd
              omega)
            have HN := Lib.hid hn
            clear hn
            go_wp2
            go_quiet (fail)
            go_wp2
            go_ret
            exact ⟨ret_bool (by unfold rightB; rw [HN.out]; rfl), below_drewN (hbel.alloc hsz _) _⟩
          | false =>
            cases hq : (en != 1 + (m : Int) / 3) with
            | true =>
              have hn : rightSt l = none := rightSt_none (k := k + 1) (by
                rw [HS.out, HR.out, Option.bind_some, rightStep, if_pos ⟨h1, h2.1, h2.2⟩, if_neg]
                rintro ⟨_, h4⟩
                simp only [Int.toNat_natCast, HM.out] at h4
                rw [bne_iff_ne] at hq
                apply hq
                omega)
              have HN := Lib.hid hn
              clear hn
              go_wp2
              go_quiet (fail)
              go_wp2
              go_ret
              exact ⟨ret_bool (by unfold rightB; rw [HN.out]; rfl), below_drewN (hbel.alloc hsz _) _⟩
            | false =>
              go_wp2
              go_quiet (fail)
              go_wp2
              have e1 : ek = ((m % 3 + 1 : Nat) : Int) := by
                have : ek = 1 + (m : Int) % 3 := by simpa using hd
                omega
              have e2 : en = ((m / 3 + 1 : Nat) : Int) := by
                have : en = 1 + (m : Int) / 3 := by simpa using hq
                omega
              refine ⟨⟨k + 1, cs.set x (m + 1), et, hlt, by go_num, rfl, ?_, by simp [hcs], ?_, ?_, (below_drewN (hbel.alloc hsz _) _).setCell (Nat.le_refl _) _⟩, by simp [intOf]; omega⟩
              · rw [HS.out, HR.out, Option.bind_some, rightStep, if_pos ⟨h1, h2.1, h2.2⟩]
                simp only [Int.toNat_natCast, HM.out]
                rw [if_pos ⟨e1, e2⟩]
                exact rfl
              · intro c hc
                rcases List.mem_or_eq_of_mem_set hc with h | h
                · have := HC.out c h
                  omega
                · omega
              · have h := (World.ownsRow.stored (World.ownsRow.alloc HT.out (.cells #[.int .i64 ek, .int .i64 x, .int .i64 en, .int .i64 et] 48)) x (.int .i64 ((m + 1 : Nat) : Int))).1
                have h' := h
                rw [show (cs.map fun (c : Nat) => Value.int .i64 (c : Int)).set x (.int .i64 ((m + 1 : Nat) : Int)) = ((cs.set x (m + 1)).map fun (c : Nat) => Value.int .i64 (c : Int)) from by rw [List.map_set]] at h'
                exact h'
        · have hn : rightSt l = none := rightSt_none (k := k + 1) (by rw [HS.out, HR.out]; simp only [Option.bind_some, rightStep]; rw [if_neg (by rintro ⟨_, h⟩; exact h2 h)])
          have HN := Lib.hid hn
          clear hn
          by_cases h3 : 1 ≤ ew
          · go_wp2
            go_ret
            exact ⟨ret_bool (by unfold rightB; rw [HN.out]; rfl), hbel.alloc hsz _⟩
          · go_wp2
            go_ret
            exact ⟨ret_bool (by unfold rightB; rw [HN.out]; rfl), hbel.alloc hsz _⟩
      · have hn : rightSt l = none := rightSt_none (k := k + 1) (by rw [HS.out, HR.out]; simp [rightStep, h1])
        have HN := Lib.hid hn
        clear hn
        go_wp2
        go_ret
        exact ⟨ret_bool (by unfold rightB; rw [HN.out]; rfl), hbel.alloc hsz _⟩
    · obtain rfl : k = l.length := by omega
      rw [List.take_length] at HR
      go_wp2
      go_ret
      exact ⟨ret_bool (by unfold rightB; rw [HR.out]; rfl), hbel⟩

end Go.Proofs.Yteaahepjendjmaa
