/- Walks of package sets' functions that make sets: along, and what rests on it. -/
import Derived.Test.YtacmigimkdiagaaSetMake
namespace Go.Proofs.Ytacmigimkdiagaa
open Go.RowKit
set_option linter.unusedVariables false
set_option linter.unusedSimpArgs false

/-- Two lists gone along together: what is taken. -/
def alongL (f s t : Bool) : List Int → List Int → List Int
  | [], [] => []
  | a :: ar, [] => (if f then [a] else []) ++ alongL f s t ar []
  | [], b :: br => (if s then [b] else []) ++ alongL f s t [] br
  | a :: ar, b :: br => if a < b then (if f then [a] else []) ++ alongL f s t ar (b :: br) else if b < a then (if s then [b] else []) ++ alongL f s t (a :: ar) br else (if t then [a] else []) ++ alongL f s t ar br
termination_by a b => a.length + b.length

/-- Rest behind a place. -/
theorem drop_get {l : List Int} {k : Nat} (hk : k < l.length) : l.drop k = l.getD k 0 :: l.drop (k + 1) := by
  rw [List.drop_eq_getElem_cons hk]
  simp [hk]

theorem along_first (f s t : Bool) (a b : List Int) (i k : Nat) (hi : i < a.length) (h : b.length ≤ k ∨ (k < b.length ∧ a.getD i 0 < b.getD k 0)) :
    alongL f s t (a.drop i) (b.drop k) = (if f then [a.getD i 0] else []) ++ alongL f s t (a.drop (i + 1)) (b.drop k) := by
  rw [drop_get hi]
  rcases h with h | ⟨h, hlt⟩
  · rw [List.drop_eq_nil_of_le h, alongL]
  · rw [drop_get h, alongL, if_pos hlt]
theorem along_second (f s t : Bool) (a b : List Int) (i k : Nat) (hk : k < b.length) (h : a.length ≤ i ∨ (i < a.length ∧ b.getD k 0 < a.getD i 0)) :
    alongL f s t (a.drop i) (b.drop k) = (if s then [b.getD k 0] else []) ++ alongL f s t (a.drop i) (b.drop (k + 1)) := by
  rw [drop_get hk]
  rcases h with h | ⟨h, hlt⟩
  · rw [List.drop_eq_nil_of_le h, alongL]
  · rw [drop_get h, alongL, if_neg (by omega), if_pos hlt]
theorem along_both (f s t : Bool) (a b : List Int) (i k : Nat) (hi : i < a.length) (hk : k < b.length) (h : a.getD i 0 = b.getD k 0) :
    alongL f s t (a.drop i) (b.drop k) = (if t then [a.getD i 0] else []) ++ alongL f s t (a.drop (i + 1)) (b.drop (k + 1)) := by
  rw [drop_get hk, drop_get hi, alongL, if_neg (by omega), if_neg (by omega)]
theorem along_end (f s t : Bool) (a b : List Int) (i k : Nat) (hi : a.length ≤ i) (hk : b.length ≤ k) : alongL f s t (a.drop i) (b.drop k) = [] := by
  rw [List.drop_eq_nil_of_le hi, List.drop_eq_nil_of_le hk, alongL]
theorem along_len (f s t : Bool) : ∀ a b, (alongL f s t a b).length ≤ a.length + b.length := by
  intro a b
  induction a, b using alongL.induct with
  | case1 => simp [alongL]
  | case2 a ar ih => rw [alongL]; simp at *; cases f <;> simp <;> omega
  | case3 b br ih => rw [alongL]; simp at *; cases s <;> simp <;> omega
  | case4 a ar b br h ih => rw [alongL, if_pos h]; simp at *; cases f <;> simp <;> omega
  | case5 a ar b br h1 h2 ih => rw [alongL, if_neg h1, if_pos h2]; simp at *; cases s <;> simp <;> omega
  | case6 a ar b br h1 h2 ih => rw [alongL, if_neg h1, if_neg h2]; simp at *; cases t <;> simp <;> omega

/-- What the closure leaves. -/
def Took (w : World) (B : Nat) (xs : List Int) (e : Ending) (w' : World) : Prop :=
  (∃ v', e = .returned (.tuple #[]) ∧ w'.cell? ⟨B, 0, none⟩ = some v' ∧ w'.frozen? ⟨B, 0, none⟩ = false ∧ OwnInts w' (B + 1) v' xs) ∧ Below B w w'

set_option maxHeartbeats 400000 in
theorem sets_take (n : Int) (wanted : Bool) (B : Nat) (v : Value) (xs : List Int) (w : World) (hc : w.cell? ⟨B, 0, none⟩ = some v) (hf : w.frozen? ⟨B, 0, none⟩ = false) (hown : OwnInts w (B + 1) v xs)
    (hlen : xs.length ≤ 1000000000) :
    Calls Try.prog 65 #[.int .i64 n, .bool wanted, .pointer (some ⟨B, 0, none⟩)] w fun e w' => Took w B (xs ++ if wanted then [n] else []) e w' := by
  have HO := Lib.hid hown
  have hB := World.block_lt_of_cell? _ _ hc
  simp at hB
  clear hown
  cases wanted with
  | true =>
    go_enter Try.func65, Try.ntmps65
    go_wp2_with (at_builtin; refine wpList_append_ints rfl (.tmp 6) (.tmp 8) rfl (B + 1) _ xs rfl (HO.out.alloc _) _ [n] rfl (IntsAt.lit1 _ _) ?_ ?_ ?_)
    · simp
      omega
    · simp
      omega
    intro v1 w1 hown1 hg1 hb1
    have HV1 := Lib.hid hown1
    have c1 : w1.cell? ⟨B, 0, none⟩ = some v := by
      refine hg1.cell (a := ⟨B, 0, none⟩) ?_ ?_
      · rw [World.cell?_alloc_past _ _ _ hB]
        exact hc
      · intro e
        have := (World.ownsRow.lt HO.out B e.symm).1
        omega
    have f1 : w1.frozen? ⟨B, 0, none⟩ = false := by
      have hbk : w1.heap[B]? = (w.alloc (.cells #[.int .i64 n] 3)).heap[B]? := hg1.block B (by simp; omega) (fun e => by
        have := (World.ownsRow.lt HO.out B e.symm).1
        omega)
      rw [World.frozen?_of_block (a := ⟨B, 0, none⟩) hbk, World.frozen?_alloc_past _ _ _ hB]
      exact hf
    clear hg1
    obtain ⟨a1, cp, hv, _⟩ := hown1.ints
    clear hown1
    subst hv
    go_wp2
    go_end0
    refine ⟨⟨.slice a1 (xs.length + 1) cp, rfl, by go_simp, by go_simp, ?_⟩, ?_⟩
    · have h1 := HV1.out
      rw [show (xs ++ [n]).length = xs.length + 1 from by simp] at h1
      exact ownsRow_setCell_below h1 (Nat.lt_succ_self B) _
    · exact (((Below.refl _ _).alloc (Nat.le_of_lt hB) _).trans (hb1.mono (Nat.le_succ B))).setCell (Nat.le_refl B) _
  | false =>
    go_enter Try.func65, Try.ntmps65
    go_wp2
    go_end0
    exact ⟨⟨v, rfl, hc, hf, by simpa using HO.out⟩, Below.refl _ _⟩

set_option maxHeartbeats 1600000 in
set_option maxRecDepth 100000 in
theorem sets_along_ge (l m : List Int) (u v : Value) (f s t : Bool) (w : World) (hl : IntsAt w u l) (hm : IntsAt w v m) (hlen : l.length ≤ 100000000) (hlen2 : m.length ≤ 100000000) :
    Calls Try.prog 60 #[u, v, .bool f, .bool s, .bool t] w fun e w' => GivesNew w (alongL f s t l m) e w' := by
  have hmf : ∀ (fn : Fn) (first cap : Array Value) (w : World), (Instr.makeFunc fn first cap).run Try.prog w = .ok (.func fn first cap) w := fun _ _ _ _ => rfl
  have HL := Lib.hid hl
  have HM := Lib.hid hm
  obtain ⟨a, ca, rfl, hl1, hl2, hl3, hl4⟩ := hl
  obtain ⟨b, cb, rfl, hm1, hm2, hm3, hm4⟩ := hm
  clear hl3 hl4 hm3 hm4
  unfold maxLen at hl2 hm2
  go_enter Try.func60, Try.ntmps60
  go_wp2
  try go_step3
  go_wp2
  try go_step3
  go_wp2
  go_loopw [13, 14] (fun p q wr => ∃ (i k : Nat) (acc : List Int) (o : Value), i ≤ l.length ∧ k ≤ m.length ∧ p = .int .i64 i ∧ q = .int .i64 k ∧ acc.length ≤ i + k ∧ Hid (alongL f s t l m = acc ++ alongL f s t (l.drop i) (m.drop k)) ∧
      wr.cell? ⟨w.heap.size, 0, none⟩ = some o ∧ wr.frozen? ⟨w.heap.size, 0, none⟩ = false ∧ Hid (OwnInts wr (w.heap.size + 1) o acc) ∧ Below w.heap.size w wr)
    (fun p q _ => (l.length - (intOf p).toNat) + (m.length - (intOf q).toNat))
  case atStart => exact ⟨0, 0, [], .slice none 0 0, Nat.zero_le _, Nat.zero_le _, rfl, rfl, Nat.zero_le _, by unfold Hid; simp, by go_simp, by go_simp, OwnInts.nil _ _, (Below.refl _ _).alloc (Nat.le_refl _) _⟩
  case round =>
    obtain ⟨i, k, acc, o, hi, hk, rfl, rfl, hacc, HE, hc, hf, HO, hbel⟩ := hrel
    have hB := World.block_lt_of_cell? _ _ hc
    simp at hB
    by_cases hil : i < l.length
    · obtain ⟨b1, o1, rfl, hb1, c1⟩ := HL.out.get hil
      rw [← hbel.cell (p := ⟨b1, _, none⟩) hb1] at c1
      obtain ⟨x, hx⟩ : ∃ x, l.getD i 0 = x := ⟨_, rfl⟩
      rw [hx] at c1
      have HX := Lib.hid hx
      clear hx
      by_cases hkm : k < m.length
      · obtain ⟨b2, o2, rfl, hb2, c2⟩ := HM.out.get hkm
        rw [← hbel.cell (p := ⟨b2, _, none⟩) hb2] at c2
        obtain ⟨y, hy⟩ : ∃ y, m.getD k 0 = y := ⟨_, rfl⟩
        rw [hy] at c2
        have HY := Lib.hid hy
        clear hy
        have hke : ((k : Int) == m.length) = false := by rw [beq_eq_false_iff_ne]; omega
        have hie : ((i : Int) == l.length) = false := by rw [beq_eq_false_iff_ne]; omega
        have hd0 : decide ((i : Int) < l.length) = true := by simp; omega
        by_cases hxy : x < y
        · have hd : decide (x < y) = true := by simpa using hxy
          go_wp2
          go_quiet (fail)
          go_wp2_with fail
          refine (sets_take x f w.heap.size o acc _ ?_ ?_ ?_ ?_).mono ?_
          · simpa using hc
          · simpa using hf
          · exact HO.out
          · omega
          rintro e w1 ⟨⟨v1, rfl, hc1, hf1, hown1⟩, hb1⟩
          have HV1 := Lib.hid hown1
          have HF1 := Lib.hid hf1
          have HC1 := Lib.hid hc1
          clear hown1 hf1 hc1
          go_wp2
          refine ⟨⟨i + 1, k, acc ++ (if f then [x] else []), v1, by omega, by omega, by go_num, by go_num, ?_, ?_, HC1.out, HF1.out, HV1.out, (below_drewN hbel _).trans hb1⟩, by simp [intOf]; omega⟩
          · rw [List.length_append]
            have : (if f = true then [x] else []).length ≤ 1 := by cases f <;> simp
            omega
          · unfold Hid
            rw [HE.out, along_first f s t l m i k hil (.inr ⟨hkm, by rw [HX.out, HY.out]; exact hxy⟩), HX.out, List.append_assoc]
        · have hd : decide (x < y) = false := by simpa using hxy
          by_cases hyx : y < x
          · have hd2 : decide (y < x) = true := by simpa using hyx
            go_wp2
            go_quiet (fail)
            go_wp2
            go_quiet (fail)
            go_wp2_with fail
            refine (sets_take y s w.heap.size o acc _ ?_ ?_ ?_ ?_).mono ?_
            · simpa using hc
            · simpa using hf
            · exact HO.out
            · omega
            rintro e w1 ⟨⟨v1, rfl, hc1, hf1, hown1⟩, hb1⟩
            have HV1 := Lib.hid hown1
            have HF1 := Lib.hid hf1
            have HC1 := Lib.hid hc1
            clear hown1 hf1 hc1
            go_wp2
            refine ⟨⟨i, k + 1, acc ++ (if s then [y] else []), v1, by omega, by omega, by go_num, by go_num, ?_, ?_, HC1.out, HF1.out, HV1.out, (below_drewN hbel _).trans hb1⟩, by simp [intOf]; omega⟩
            · rw [List.length_append]
              have : (if s = true then [y] else []).length ≤ 1 := by cases s <;> simp
              omega
            · unfold Hid
              rw [HE.out, along_second f s t l m i k hkm (.inr ⟨hil, by rw [HX.out, HY.out]; exact hyx⟩), HY.out, List.append_assoc]
          · have hd2 : decide (y < x) = false := by simpa using hyx
            go_wp2
            go_quiet (fail)
            go_wp2
            go_quiet (fail)
            go_wp2_with fail
            refine (sets_take x t w.heap.size o acc _ ?_ ?_ ?_ ?_).mono ?_
            · simpa using hc
            · simpa using hf
            · exact HO.out
            · omega
            rintro e w1 ⟨⟨v1, rfl, hc1, hf1, hown1⟩, hb1⟩
            have HV1 := Lib.hid hown1
            have HF1 := Lib.hid hf1
            have HC1 := Lib.hid hc1
            clear hown1 hf1 hc1
            go_wp2
            refine ⟨⟨i + 1, k + 1, acc ++ (if t then [x] else []), v1, by omega, by omega, by go_num, by go_num, ?_, ?_, HC1.out, HF1.out, HV1.out, (below_drewN hbel _).trans hb1⟩, by simp [intOf]; omega⟩
            · rw [List.length_append]
              have : (if t = true then [x] else []).length ≤ 1 := by cases t <;> simp
              omega
            · unfold Hid
              rw [HE.out, along_both f s t l m i k hil hkm (by rw [HX.out, HY.out]; omega), HX.out, List.append_assoc]
      · have hke : ((k : Int) == m.length) = true := by rw [beq_iff_eq]; omega
        go_wp2
        go_quiet (fail)
        go_wp2_with fail
        refine (sets_take x f w.heap.size o acc _ ?_ ?_ ?_ ?_).mono ?_
        · simpa using hc
        · simpa using hf
        · exact HO.out
        · omega
        rintro e w1 ⟨⟨v1, rfl, hc1, hf1, hown1⟩, hb1⟩
        have HV1 := Lib.hid hown1
        have HF1 := Lib.hid hf1
        have HC1 := Lib.hid hc1
        clear hown1 hf1 hc1
        go_wp2
        refine ⟨⟨i + 1, k, acc ++ (if f then [x] else []), v1, by omega, by omega, by go_num, by go_num, ?_, ?_, HC1.out, HF1.out, HV1.out, (below_drewN hbel _).trans hb1⟩, by simp [intOf]; omega⟩
        · rw [List.length_append]
          have : (if f = true then [x] else []).length ≤ 1 := by cases f <;> simp
          omega
        · unfold Hid
          rw [HE.out, along_first f s t l m i k hil (.inl (by omega)), HX.out, List.append_assoc]
    · by_cases hkm : k < m.length
      · obtain ⟨b2, o2, rfl, hb2, c2⟩ := HM.out.get hkm
        rw [← hbel.cell (p := ⟨b2, _, none⟩) hb2] at c2
        obtain ⟨y, hy⟩ : ∃ y, m.getD k 0 = y := ⟨_, rfl⟩
        rw [hy] at c2
        have HY := Lib.hid hy
        clear hy
        have hke : ((k : Int) == m.length) = false := by rw [beq_eq_false_iff_ne]; omega
        have hie : ((i : Int) == l.length) = true := by rw [beq_iff_eq]; omega
        have hd0 : decide ((i : Int) < l.length) = false := by simp; omega
        go_wp2
        go_quiet (fail)
        go_wp2
        go_quiet (fail)
        go_wp2_with fail
        refine (sets_take y s w.heap.size o acc _ ?_ ?_ ?_ ?_).mono ?_
        · simpa using hc
        · simpa using hf
        · exact HO.out
        · omega
        rintro e w1 ⟨⟨v1, rfl, hc1, hf1, hown1⟩, hb1⟩
        have HV1 := Lib.hid hown1
        have HF1 := Lib.hid hf1
        have HC1 := Lib.hid hc1
        clear hown1 hf1 hc1
        go_wp2
        refine ⟨⟨i, k + 1, acc ++ (if s then [y] else []), v1, by omega, by omega, by go_num, by go_num, ?_, ?_, HC1.out, HF1.out, HV1.out, (below_drewN hbel _).trans hb1⟩, by simp [intOf]; omega⟩
        · rw [List.length_append]
          have : (if s = true then [y] else []).length ≤ 1 := by cases s <;> simp
          omega
        · unfold Hid
          rw [HE.out, along_second f s t l m i k hkm (.inl (by omega)), HY.out, List.append_assoc]
      · obtain ⟨a9, c9, ho9, _⟩ := HO.out.ints
        have HO9 := Lib.hid HO.out.ints
        have HG9 := Lib.hid (OwnInts.geB HO.out)
        have HEE := Lib.hid (along_end f s t l m i k (by omega) (by omega))
        subst ho9
        go_wp2
        try rw [Exit.noGoto_ret]
        go_ret
        refine ⟨⟨_, rfl, ?_, HG9.out.mono (Nat.le_succ _)⟩, hbel⟩
        rw [HE.out, HEE.out, List.append_nil]
        exact HO9.out
theorem sets_along (l m : List Int) (u v : Value) (f s t : Bool) (w : World) (hl : IntsAt w u l) (hm : IntsAt w v m) (hlen : l.length ≤ 100000000) (hlen2 : m.length ≤ 100000000) :
    Calls Try.prog 60 #[u, v, .bool f, .bool s, .bool t] w fun e w' => (∃ v', e = .returned v' ∧ IntsAt w' v' (alongL f s t l m)) ∧ Below w.heap.size w w' :=
  (sets_along_ge l m u v f s t w hl hm hlen hlen2).mono fun _ _ ⟨⟨v', h1, h2, _⟩, h3⟩ => ⟨⟨v', h1, h2⟩, h3⟩

end Go.Proofs.Ytacmigimkdiagaa
