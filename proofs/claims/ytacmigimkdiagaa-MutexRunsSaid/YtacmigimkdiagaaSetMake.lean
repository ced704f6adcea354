/- Walks of the functions that make sets: Put, From, Less, Both, Either, by what each makes as a list. -/
import Derived.Test.YtacmigimkdiagaaSetFns
import Derived.Deep.DeepMust
namespace Go.Proofs.Ytacmigimkdiagaa
open Go.RowKit
set_option linter.unusedVariables false
set_option linter.unusedSimpArgs false

/-- A number put into a set. -/
def putL : List Int → Int → List Int
  | [], n => [n]
  | a :: r, n => if a < n then a :: putL r n else if a = n then a :: r else n :: a :: r
theorem putL_at (s : List Int) (n : Int) : ∀ k, k ≤ s.length → (∀ i, i < k → s.getD i 0 < n) → (k < s.length → n ≤ s.getD k 0) →
    putL s n = if k < s.length ∧ s.getD k 0 = n then s else s.take k ++ n :: s.drop k := by
  induction s with
  | nil => intro k hk _ _; simp at hk; subst hk; simp [putL]
  | cons a r ih =>
    intro k hk h1 h2
    cases k with
    | zero =>
      have h3 : n ≤ a := by simpa using h2 (by simp)
      rw [putL, if_neg (by omega)]
      by_cases h4 : a = n
      · simp [h4]
      · simp [h4]
    | succ k =>
      have h3 : a < n := by simpa using h1 0 (by omega)
      rw [putL, if_pos h3, ih k (by simpa using hk) (fun i hi => by simpa using h1 (i + 1) (by omega)) (fun hk' => by simpa using h2 (by simpa using hk'))]
      by_cases h5 : k < r.length ∧ r.getD k 0 = n
      · rw [if_pos h5, if_pos (by simpa using h5)]
      · rw [if_neg h5, if_neg (by simpa using h5)]
        simp

/-- A slice that lies from a block's number on (or nil). -/
def GeB (base : Nat) (v : Value) : Prop := v = .slice none 0 0 ∨ ∃ b off n c, v = .slice (some ⟨b, off, none⟩) n c ∧ base ≤ b
theorem OwnInts.geB {w : World} {base : Nat} {v : Value} {l : List Int} (h : OwnInts w base v l) : GeB base v := by
  rcases h.2 with ⟨rfl, hn⟩ | ⟨g, cap, cur, rfl, hg, hh, _⟩
  · exact .inl rfl
  · exact .inr ⟨g, 0, _, cap, rfl, hg⟩
theorem GeB.mono {b b' : Nat} {v : Value} (h : GeB b v) (hb : b' ≤ b) : GeB b' v := by
  rcases h with h | ⟨g, off, n, c, h, hg⟩
  · exact .inl h
  · exact .inr ⟨g, off, n, c, h, Nat.le_trans hb hg⟩
/-- What Put gives. -/
def GivesPut (w : World) (v : Value) (l : List Int) (e : Ending) (w' : World) : Prop := (∃ v', e = .returned v' ∧ IntsAt w' v' l ∧ (v' = v ∨ GeB w.heap.size v')) ∧ Below w.heap.size w w'

set_option maxHeartbeats 2000000 in
theorem ref04_put_ge (l : List Int) (v : Value) (n : Int) (w : World) (hl : IntsAt w v l) (hlen : l.length ≤ 1000000000) :
    Calls Try.prog 48 #[v, .int .i64 n] w fun e w' => GivesPut w v (putL l n) e w' := by
  have HL := Lib.hid hl
  obtain ⟨a, ca, rfl, hl1, hl2, hl3, hl4⟩ := hl
  clear hl3 hl4
  unfold maxLen at hl2
  go_enter Try.func48, Try.ntmps48
  go_wp2
  go_loop [5] (fun i => ∃ k : Nat, k ≤ l.length ∧ i = .int .i64 k ∧ Hid (∀ i, i < k → l.getD i 0 < n)) (fun i => l.length - (intOf i).toNat)
  case atStart => exact ⟨0, Nat.zero_le _, rfl, fun i h => by omega⟩
  case round =>
    obtain ⟨k, hk, rfl, hs⟩ := hrel
    have HP := Lib.hid (putL_at l n k hk hs.out)
    by_cases hlt : k < l.length
    · obtain ⟨b1, o1, rfl, hb1, c1⟩ := HL.out.get hlt
      obtain ⟨x, hx⟩ : ∃ x, l.getD k 0 = x := ⟨_, rfl⟩
      rw [hx] at c1
      have HX := Lib.hid hx
      clear hx
      by_cases hxn : x < n
      · go_wp2
        exact ⟨⟨k + 1, hlt, by go_num, fun i hi => by
          rcases Nat.lt_succ_iff_lt_or_eq.1 hi with h1 | rfl
          · exact hs.out i h1
          · rw [HX.out]; exact hxn⟩, by simp [intOf]; omega⟩
      · by_cases hxe : x = n
        · subst hxe
          go_wp2
          go_ret
          refine ⟨⟨_, rfl, ?_, .inl rfl⟩, Below.refl _ _⟩
          rw [HP.out (fun _ => by rw [HX.out]; exact Int.le_refl _), if_pos ⟨hlt, HX.out⟩]
          exact HL.out
        · have hne : (x == n) = false := by simpa using hxe
          have hT := HL.out.front (k := k) hk
          have hD := HL.out.rest_at (k := k) hk
          have HPP := Lib.hid (HP.out (fun _ => by rw [HX.out]; omega))
          have hkc : k ≤ ca := Nat.le_trans hk hl1
          go_wp2
          go_region_held3 (fun w' => Below w.heap.size w w' ∧ (∀ b o, b < w.heap.size → w'.cell? ⟨b, o, none⟩ = w.cell? ⟨b, o, none⟩) ∧ ∀ b o, b < w.heap.size → w'.frozen? ⟨b, o, none⟩ = w.frozen? ⟨b, o, none⟩)
            (first | exact Keeps.atDraw _ | exact hB | exact Keeps.new (by assumption) _)
            ((first
              | (refine step_append_ints rfl (.tmp 33) (.tmp 36) rfl w.heap.size (.slice (some ⟨w.heap.size, 0, none⟩) 0 0) [] rfl ?_ _ (l.take k) rfl ?_ ?_ ?_ ?_
                 (first | exact OwnInts.drew (own_empty2 _ _ _ (Nat.le_refl _)) | (refine OwnInts.drew (own_empty _ _ ?_); first | exact Nat.le_refl _ | exact Nat.le_succ _) | (refine OwnInts.drew (OwnInts.alloc (own_empty _ _ ?_) _); first | exact Nat.le_refl _ | exact Nat.le_succ _))
                 exact hT.below (Keeps.bel (by assumption))
                 (simp; omega)
                 exact (Keeps.bel (by assumption)).size
                 intro v1 w1 hown1 hg1 hbl1
                 have hB : Keeps w w1 := .of ((Keeps.bel (by assumption)).trans hbl1)
                 have H39 := fun g x h1 h2 => hg1.cell (a := ⟨g, 0, none⟩) (v := x) h2 h1
                 clear hg1 hbl1)
              | (refine step_append_ints rfl (.tmp 33) (.tmp 36) rfl w.heap.size (.slice (some ⟨w.heap.size + 1, 0, none⟩) 0 0) [] rfl ?_ _ (l.take k) rfl ?_ ?_ ?_ ?_
                 (first | exact OwnInts.drew (own_empty2 _ _ _ (Nat.le_refl _)) | (refine OwnInts.drew (own_empty _ _ ?_); first | exact Nat.le_refl _ | exact Nat.le_succ _) | (refine OwnInts.drew (OwnInts.alloc (own_empty _ _ ?_) _); first | exact Nat.le_refl _ | exact Nat.le_succ _))
                 exact hT.below (Keeps.bel (by assumption))
                 (simp; omega)
                 exact (Keeps.bel (by assumption)).size
                 intro v1 w1 hown1 hg1 hbl1
                 have hB : Keeps w w1 := .of ((Keeps.bel (by assumption)).trans hbl1)
                 have H39 := fun g x h1 h2 => hg1.cell (a := ⟨g, 0, none⟩) (v := x) h2 h1
                 clear hg1 hbl1)
              | (refine step_append_ints rfl (.tmp 37) (.tmp 39) rfl w.heap.size _ ([] ++ l.take k) rfl ?_ _ [n] rfl ?_ ?_ ?_ ?_
                 (first | exact hown1 | exact hown1.alloc _)
                 (first | exact IntsAt.lit1 _ _ | (refine IntsAt.one ?_; refine H39 _ _ ?_ ?_; (first | exact own_ne (Nat.succ_ne_self _) _ _ | exact own_ne (Nat.ne_of_lt (Nat.lt_succ_self _)) _ _); (first | exact lit_cell _ _ _ | exact lit_cell2 _ _ _ _ | exact lit_cell' _ _ _ _)))
                 (simp; omega)
                 exact (Keeps.bel (by assumption)).size
                 intro v2 w2 hown2 hg2 hbl2
                 have hB : Keeps w w2 := .of ((Keeps.bel (by assumption)).trans hbl2)
                 clear hg2 hbl2 H39)
              | (refine step_append_ints rfl (.tmp 40) (.tmp 43) rfl w.heap.size _ ([] ++ l.take k ++ [n]) rfl ?_ _ (l.drop k) rfl ?_ ?_ ?_ ?_
                 exact hown2
                 exact hD.below (Keeps.bel (by assumption))
                 (simp; omega)
                 exact (Keeps.bel (by assumption)).size
                 intro v3 w3 hown3 hg3 hbl3
                 have hB : Keeps w w3 := .of ((Keeps.bel (by assumption)).trans hbl3)
                 clear hg3 hbl3)))
          all_goals go_wp2
          all_goals go_ret
          all_goals
            refine ⟨⟨v3, rfl, ?_, .inr hown3.geB⟩, hB.1⟩
            rw [HPP.out, if_neg (by rintro ⟨_, h⟩; exact hxe (HX.out.symm.trans h))]
            have := hown3.ints
            simpa using this
    · obtain rfl : k = l.length := by omega
      have hT := HL.out.front (k := l.length) hk
      have hD := HL.out.rest_any (k := l.length) hk
      rw [Nat.sub_self] at hD
      have HPP := Lib.hid (HP.out (fun h => absurd h hlt))
      have hkc : l.length ≤ ca := hl1
      go_wp2
      go_region_held3 (fun w' => Below w.heap.size w w' ∧ (∀ b o, b < w.heap.size → w'.cell? ⟨b, o, none⟩ = w.cell? ⟨b, o, none⟩) ∧ ∀ b o, b < w.heap.size → w'.frozen? ⟨b, o, none⟩ = w.frozen? ⟨b, o, none⟩)
        (first | exact Keeps.atDraw _ | exact hB | exact Keeps.new (by assumption) _)
        ((first
          | (refine step_append_ints rfl (.tmp 33) (.tmp 36) rfl w.heap.size (.slice (some ⟨w.heap.size, 0, none⟩) 0 0) [] rfl ?_ _ (l.take l.length) rfl ?_ ?_ ?_ ?_
             (first | exact OwnInts.drew (own_empty2 _ _ _ (Nat.le_refl _)) | (refine OwnInts.drew (own_empty _ _ ?_); first | exact Nat.le_refl _ | exact Nat.le_succ _) | (refine OwnInts.drew (OwnInts.alloc (own_empty _ _ ?_) _); first | exact Nat.le_refl _ | exact Nat.le_succ _))
             exact hT.below (Keeps.bel (by assumption))
             (simp; omega)
             exact (Keeps.bel (by assumption)).size
             intro v1 w1 hown1 hg1 hbl1
             have hB : Keeps w w1 := .of ((Keeps.bel (by assumption)).trans hbl1)
             have H39 := fun g x h1 h2 => hg1.cell (a := ⟨g, 0, none⟩) (v := x) h2 h1
             clear hg1 hbl1)
          | (refine step_append_ints rfl (.tmp 33) (.tmp 36) rfl w.heap.size (.slice (some ⟨w.heap.size + 1, 0, none⟩) 0 0) [] rfl ?_ _ (l.take l.length) rfl ?_ ?_ ?_ ?_
             (first | exact OwnInts.drew (own_empty2 _ _ _ (Nat.le_refl _)) | (refine OwnInts.drew (own_empty _ _ ?_); first | exact Nat.le_refl _ | exact Nat.le_succ _) | (refine OwnInts.drew (OwnInts.alloc (own_empty _ _ ?_) _); first | exact Nat.le_refl _ | exact Nat.le_succ _))
             exact hT.below (Keeps.bel (by assumption))
             (simp; omega)
             exact (Keeps.bel (by assumption)).size
             intro v1 w1 hown1 hg1 hbl1
             have hB : Keeps w w1 := .of ((Keeps.bel (by assumption)).trans hbl1)
             have H39 := fun g x h1 h2 => hg1.cell (a := ⟨g, 0, none⟩) (v := x) h2 h1
             clear hg1 hbl1)
          | (refine step_append_ints rfl (.tmp 37) (.tmp 39) rfl w.heap.size _ ([] ++ l.take l.length) rfl ?_ _ [n] rfl ?_ ?_ ?_ ?_
             (first | exact hown1 | exact hown1.alloc _)
             (first | exact IntsAt.lit1 _ _ | (refine IntsAt.one ?_; refine H39 _ _ ?_ ?_; (first | exact own_ne (Nat.succ_ne_self _) _ _ | exact own_ne (Nat.ne_of_lt (Nat.lt_succ_self _)) _ _); (first | exact lit_cell _ _ _ | exact lit_cell2 _ _ _ _ | exact lit_cell' _ _ _ _)))
             (simp; omega)
             exact (Keeps.bel (by assumption)).size
             intro v2 w2 hown2 hg2 hbl2
             have hB : Keeps w w2 := .of ((Keeps.bel (by assumption)).trans hbl2)
             clear hg2 hbl2 H39)
          | (refine step_append_ints rfl (.tmp 40) (.tmp 43) rfl w.heap.size _ ([] ++ l.take l.length ++ [n]) rfl ?_ _ (l.drop l.length) rfl ?_ ?_ ?_ ?_
             exact hown2
             exact hD.below (Keeps.bel (by assumption))
             (simp; omega)
             exact (Keeps.bel (by assumption)).size
             intro v3 w3 hown3 hg3 hbl3
             have hB : Keeps w w3 := .of ((Keeps.bel (by assumption)).trans hbl3)
             clear hg3 hbl3)))
      all_goals go_wp2
      all_goals go_ret
      all_goals
        refine ⟨⟨v3, rfl, ?_, .inr hown3.geB⟩, hB.1⟩
        rw [HPP.out, if_neg (by rintro ⟨h, _⟩; exact hlt h)]
        have := hown3.ints
        simpa using this

theorem ref04_put (l : List Int) (v : Value) (n : Int) (w : World) (hl : IntsAt w v l) (hlen : l.length ≤ 1000000000) :
    Calls Try.prog 48 #[v, .int .i64 n] w fun e w' => (∃ v', e = .returned v' ∧ IntsAt w' v' (putL l n)) ∧ Below w.heap.size w w' :=
  (ref04_put_ge l v n w hl hlen).mono fun _ _ ⟨⟨v', h1, h2, _⟩, h3⟩ => ⟨⟨v', h1, h2⟩, h3⟩

/-- The set of a list's numbers. -/
def fromL (l : List Int) : List Int := l.foldl putL []
theorem putL_len (l : List Int) (n : Int) : (putL l n).length ≤ l.length + 1 := by
  induction l with
  | nil => simp [putL]
  | cons a r ih =>
    rw [putL]
    split
    · simpa using ih
    · split <;> simp
theorem foldl_putL_len (m l : List Int) : (m.foldl putL l).length ≤ l.length + m.length := by
  induction m generalizing l with
  | nil => simp
  | cons a r ih =>
    have := ih (putL l a)
    have := putL_len l a
    simp
    omega
theorem foldl_take_snoc (m l : List Int) (k : Nat) (hk : k < m.length) : (m.take (k + 1)).foldl putL l = putL ((m.take k).foldl putL l) (m.getD k 0) := by
  rw [List.take_succ_eq_append_getElem hk, List.foldl_append]
  simp [hk]

/-- What From gives. -/
def GivesNew (w : World) (l : List Int) (e : Ending) (w' : World) : Prop := (∃ v', e = .returned v' ∧ IntsAt w' v' l ∧ GeB w.heap.size v') ∧ Below w.heap.size w w'

set_option maxHeartbeats 400000 in
theorem ref04_from_ge (l : List Int) (v : Value) (w : World) (hl : IntsAt w v l) (hlen : l.length ≤ 100000000) :
    Calls Try.prog 24 #[v] w fun e w' => GivesNew w (fromL l) e w' := by
  have HL := Lib.hid hl
  obtain ⟨a, ca, rfl, hl1, hl2, hl3, hl4⟩ := hl
  clear hl3 hl4
  unfold maxLen at hl2
  go_enter Try.func24, Try.ntmps24
  go_wp2
  go_loopw [3, 4] (fun o i wr => ∃ k : Nat, k ≤ l.length ∧ i = .int .i64 k ∧ IntsAt wr o ((l.take k).foldl putL []) ∧ Hid (GeB w.heap.size o) ∧ Below w.heap.size w wr) (fun _ i _ => l.length - (intOf i).toNat)
  case atStart => exact ⟨0, Nat.zero_le _, rfl, IntsAt.nil _, .inl rfl, Below.refl _ _⟩
  case round =>
    obtain ⟨k, hk, rfl, ho, HG, hbel⟩ := hrel
    have HO := Lib.hid ho
    clear ho
    by_cases hlt : k < l.length
    · obtain ⟨b1, o1, rfl, hb1, c1⟩ := HL.out.get hlt
      rw [← hbel.cell (p := ⟨b1, _, none⟩) hb1] at c1
      obtain ⟨x, hx⟩ : ∃ x, l.getD k 0 = x := ⟨_, rfl⟩
      rw [hx] at c1
      have HS := Lib.hid (foldl_take_snoc l [] k hlt)
      have HX := Lib.hid hx
      clear hx
      go_wp2_with fail
      refine (ref04_put_ge _ _ _ _ HO.out ?_).mono ?_
      · have := foldl_putL_len (l.take k) []
        simp at this
        omega
      rintro e w1 ⟨⟨v1, rfl, hv1, hge⟩, hb⟩
      have HGE : Hid (GeB w.heap.size v1) := by
        rcases hge with rfl | h
        · exact HG
        · exact h.mono hbel.size
      clear hge
      have HV1 := Lib.hid hv1
      clear hv1
      go_wp2_with fail
      refine ⟨⟨k + 1, hlt, by go_num, ?_, HGE, bstep hbel (Nat.le_refl _) hb⟩, by simp [intOf]; omega⟩
      rw [HS.out, HX.out]
      exact HV1.out
    · go_wp2
      go_ret
      obtain rfl : k = l.length := by omega
      have := HO.out
      rw [List.take_length] at this
      exact ⟨⟨_, rfl, this, HG.out⟩, hbel⟩

theorem ref04_from (l : List Int) (v : Value) (w : World) (hl : IntsAt w v l) (hlen : l.length ≤ 100000000) :
    Calls Try.prog 24 #[v] w fun e w' => (∃ v', e = .returned v' ∧ IntsAt w' v' (fromL l)) ∧ Below w.heap.size w w' :=
  (ref04_from_ge l v w hl hlen).mono fun _ _ ⟨⟨v', h1, h2, _⟩, h3⟩ => ⟨⟨v', h1, h2⟩, h3⟩

/-- The numbers of a that are in b, and those that are not. -/
def bothL (a b : List Int) : List Int := a.filter fun n => decide (n ∈ b)
def lessL (a b : List Int) : List Int := a.filter fun n => !decide (n ∈ b)
theorem filter_take_snoc (p : Int → Bool) (l : List Int) (k : Nat) (hk : k < l.length) : (l.take (k + 1)).filter p = (l.take k).filter p ++ if p (l.getD k 0) then [l.getD k 0] else [] := by
  rw [List.take_succ_eq_append_getElem hk, List.filter_append]
  simp [hk, List.filter_cons]

set_option maxHeartbeats 400000 in
theorem ref04_less (l m : List Int) (u v : Value) (w : World) (hl : IntsAt w u l) (hm : IntsAt w v m) (hlen : l.length ≤ 100000000) :
    Calls Try.prog 45 #[u, v] w fun e w' => (∃ v', e = .returned v' ∧ IntsAt w' v' (lessL l m)) ∧ Below w.heap.size w w' := by
  have HL := Lib.hid hl
  have HM := Lib.hid hm
  clear hm
  obtain ⟨a, ca, rfl, hl1, hl2, hl3, hl4⟩ := hl
  clear hl3 hl4
  unfold maxLen at hl2
  go_enter Try.func45, Try.ntmps45
  go_wp2
  go_loopw [5, 6] (fun o i wr => ∃ k : Nat, k ≤ l.length ∧ i = .int .i64 k ∧ OwnInts wr w.heap.size o ((l.take k).filter (fun n => !decide (n ∈ m))) ∧ Below w.heap.size w wr) (fun _ i _ => l.length - (intOf i).toNat)
  case atStart => exact ⟨0, Nat.zero_le _, rfl, OwnInts.nil _ _, Below.refl _ _⟩
  case round =>
    obtain ⟨k, hk, rfl, ho, hbel⟩ := hrel
    have HO := Lib.hid ho
    clear ho
    by_cases hlt : k < l.length
    · obtain ⟨b1, o1, rfl, hb1, c1⟩ := HL.out.get hlt
      rw [← hbel.cell (p := ⟨b1, _, none⟩) hb1] at c1
      obtain ⟨x, hx⟩ : ∃ x, l.getD k 0 = x := ⟨_, rfl⟩
      rw [hx] at c1
      have HS := Lib.hid (filter_take_snoc (fun n => !decide (n ∈ m)) l k hlt)
      have HX := Lib.hid hx
      clear hx
      by_cases hmem : x ∈ m
      · have hd : decide (x ∈ m) = true := by simpa using hmem
        have hd'' : (if (fun n => !decide (n ∈ m)) x = true then [x] else []) = ([] : List Int) := by simp [hmem]
        go_wp2_with (first | (go_at_call 25; refine (ref04_in m _ _ _ (HM.out.below hbel)).mono ?_; rintro e w' ⟨rfl, rfl⟩; simp only [hd]))
        refine ⟨⟨k + 1, hlt, by go_num, ?_, hbel⟩, by simp [intOf]; omega⟩
        rw [HS.out, HX.out, hd'']
        simpa using HO.out
      · have hd : decide (x ∈ m) = false := by simpa using hmem
        have hd'' : (if (fun n => !decide (n ∈ m)) x = true then [x] else []) = [x] := by simp [hmem]
        go_wp2_with (first | (go_at_call 25; refine (ref04_in m _ _ _ (HM.out.below hbel)).mono ?_; rintro e w' ⟨rfl, rfl⟩; simp only [hd]) | (at_builtin; refine wpList_append_ints rfl (.tmp 20) (.tmp 25) rfl w.heap.size _ _ rfl (HO.out.alloc _) _ [x] rfl (IntsAt.lit1 _ _) ?_ ?_ ?_))
        · have := List.length_filter_le (fun n => !decide (n ∈ m)) (l.take k)
          have := List.length_take_le k l
          simp
          omega
        · have := hbel.size
          simp
          omega
        · intro v1 w1 hown1 hg1 hb1
          have HV1 := Lib.hid hown1
          clear hown1 hg1
          go_wp2
          refine ⟨⟨k + 1, hlt, by go_num, ?_, (hbel.alloc hbel.size _).trans hb1⟩, by simp [intOf]; omega⟩
          rw [HS.out, HX.out, hd'']
          exact HV1.out
    · go_wp2
      go_ret
      obtain rfl : k = l.length := by omega
      have := HO.out.ints
      rw [List.take_length] at this
      exact ⟨⟨_, rfl, this⟩, hbel⟩


/-- What is in either of two sets. -/
def eitherL (a b : List Int) : List Int := b.foldl putL a


end Go.Proofs.Ytacmigimkdiagaa
