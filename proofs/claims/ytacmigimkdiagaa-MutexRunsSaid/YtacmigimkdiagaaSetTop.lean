/- Walks of package sets' exported functions, by the plain words of sets: Either, Both, Less, From, Apart. -/
import Derived.Test.YtacmigimkdiagaaSetLaws
namespace Go.Proofs.Ytacmigimkdiagaa
open Go.RowKit
set_option linter.unusedVariables false
set_option linter.unusedSimpArgs false

/-- A call gives a slice of these numbers. -/
def GivesInts (w : World) (l : List Int) (e : Ending) (w' : World) : Prop := (∃ v', e = .returned v' ∧ IntsAt w' v' l) ∧ Below w.heap.size w w'

set_option maxHeartbeats 400000 in
theorem sets_either (l m : List Int) (u v : Value) (w : World) (hl : IntsAt w u l) (hm : IntsAt w v m) (hlen : l.length ≤ 100000000) (hlen2 : m.length ≤ 100000000) (hr : riseB l = true) (hs : riseB m = true) :
    Calls Try.prog 46 #[u, v] w fun e w' => GivesInts w (eitherL l m) e w' := by
  have HL := Lib.hid hl
  have HM := Lib.hid hm
  have HE := Lib.hid (along_either hr hs)
  clear hl hm hr hs
  go_enter Try.func46, Try.ntmps46
  go_wp2_with fail
  refine (sets_along l m _ _ _ _ _ _ HL.out HM.out hlen hlen2).mono ?_
  rintro e w1 ⟨⟨v1, rfl, hv1⟩, hb⟩
  have HV := Lib.hid hv1
  clear hv1
  go_wp2
  go_ret
  rw [HE.out] at HV
  exact ⟨⟨_, rfl, HV.out⟩, hb⟩


set_option maxHeartbeats 400000 in
theorem sets_less_ge (l m : List Int) (u v : Value) (w : World) (hl : IntsAt w u l) (hm : IntsAt w v m) (hlen : l.length ≤ 100000000) (hlen2 : m.length ≤ 100000000) (hr : riseB l = true) (hs : riseB m = true) :
    Calls Try.prog 47 #[u, v] w fun e w' => GivesNew w (lessL l m) e w' := by
  have HL := Lib.hid hl
  have HM := Lib.hid hm
  have HE := Lib.hid (along_less hr hs)
  clear hl hm hr hs
  go_enter Try.func47, Try.ntmps47
  go_wp2_with fail
  refine (sets_along_ge l m _ _ _ _ _ _ HL.out HM.out hlen hlen2).mono ?_
  rintro e w1 ⟨⟨v1, rfl, hv1, hge⟩, hb⟩
  have HV := Lib.hid hv1
  have HGE := Lib.hid hge
  clear hv1 hge
  go_wp2
  go_ret
  rw [HE.out] at HV
  exact ⟨⟨_, rfl, HV.out, HGE.out⟩, hb⟩
theorem sets_less (l m : List Int) (u v : Value) (w : World) (hl : IntsAt w u l) (hm : IntsAt w v m) (hlen : l.length ≤ 100000000) (hlen2 : m.length ≤ 100000000) (hr : riseB l = true) (hs : riseB m = true) :
    Calls Try.prog 47 #[u, v] w fun e w' => GivesInts w (lessL l m) e w' :=
  (sets_less_ge l m u v w hl hm hlen hlen2 hr hs).mono fun _ _ ⟨⟨v', h1, h2, _⟩, h3⟩ => ⟨⟨v', h1, h2⟩, h3⟩

theorem from_short {l : List Int} (h : l.length < 2) : fromL l = l := by
  match l, h with
  | [], _ => rfl
  | [a], _ => rfl
  | a :: b :: r, h => simp at h; omega
theorem fromL_len (l : List Int) : (fromL l).length ≤ l.length := by
  have := foldl_putL_len l []
  simpa [fromL] using this

set_option maxHeartbeats 800000 in
theorem sets_from_at (n : Nat) : ∀ (l : List Int) (v : Value) (w : World), l.length ≤ n → IntsAt w v l → l.length ≤ 100000000 →
    Calls Try.prog 56 #[v] w fun e w' => GivesInts w (fromL l) e w' := by
  induction n with
  | zero =>
    intro l v w hn hl hlen
    have hn0 : l = [] := by simpa using hn
    subst hn0
    have HL := Lib.hid hl
    obtain ⟨a, ca, rfl, hl1, hl2, hl3, hl4⟩ := hl
    clear hl3 hl4
    go_enter Try.func56, Try.ntmps56
    go_wp2_with (at_builtin; refine wpList_append_ints rfl (.tmp 7) (.tmp 8) rfl w.heap.size _ [] rfl (own_empty _ _ (Nat.le_refl _)) _ [] rfl (HL.out.alloc _) ?_ ?_ ?_)
    · simp
    · simp
    intro v1 w1 hown1 hg1 hb1
    have HV1 := Lib.hid hown1.ints
    clear hown1 hg1
    go_wp2
    go_ret
    exact ⟨⟨_, rfl, HV1.out⟩, ((Below.refl _ _).alloc (Nat.le_refl _) _).trans hb1⟩
  | succ n ih =>
    intro l v w hn hl hlen
    have HI := Lib.hid ih
    clear ih
    have HL := Lib.hid hl
    obtain ⟨a, ca, rfl, hl1, hl2, hl3, hl4⟩ := hl
    clear hl3 hl4
    unfold maxLen at hl2
    by_cases h2 : l.length < 2
    · go_enter Try.func56, Try.ntmps56
      go_wp2_with (at_builtin; refine wpList_append_ints rfl (.tmp 7) (.tmp 8) rfl w.heap.size _ [] rfl (own_empty _ _ (Nat.le_refl _)) _ l rfl (HL.out.alloc _) ?_ ?_ ?_)
      · simp
        omega
      · simp
      intro v1 w1 hown1 hg1 hb1
      have HV1 := Lib.hid hown1.ints
      clear hown1 hg1
      go_wp2
      go_ret
      refine ⟨⟨_, rfl, ?_⟩, ((Below.refl _ _).alloc (Nat.le_refl _) _).trans hb1⟩
      rw [from_short h2]
      simpa using HV1.out
    · obtain ⟨hf, hh⟩ : ∃ hf : Nat, (l.length : Int) / 2 = (hf : Int) := ⟨l.length / 2, by omega⟩
      have hh1 : hf < l.length := by omega
      have hh2 : 1 ≤ hf := by omega
      have hh3 : hf ≤ l.length := by omega
      have hh4 : hf ≤ ca := by omega
      have hT := HL.out.front (k := hf) hh3
      have hD := HL.out.rest_any (k := hf) hh3
      rw [if_neg (by omega)] at hD
      have HF := Lib.hid (from_halves (l.take hf) (l.drop hf))
      go_enter Try.func56, Try.ntmps56
      go_wp2_with fail
      clear hh
      go_region_held3 (fun w' => Below w.heap.size w w' ∧ (∀ b o, b < w.heap.size → w'.cell? ⟨b, o, none⟩ = w.cell? ⟨b, o, none⟩) ∧ ∀ b o, b < w.heap.size → w'.frozen? ⟨b, o, none⟩ = w.frozen? ⟨b, o, none⟩) (first | exact Keeps.atDraw _ | exact hB)
        ((first
          | (go_at_call 56; (with_reducible refine (HI.out (l.take hf) _ _ ?_ (hT.below (Keeps.bel (by assumption))) ?_).mono ?_); (simp; omega); (simp; omega); rintro e w1 ⟨⟨v1, rfl, q1⟩, hb⟩; have hB := Keeps.call hb (by assumption); (try replace q2 := q2.below hb))
          | (go_at_call 56; (with_reducible refine (HI.out (l.drop hf) _ _ ?_ (hD.below (Keeps.bel (by assumption))) ?_).mono ?_); (simp; omega); (simp; omega); rintro e w1 ⟨⟨v2, rfl, q2⟩, hb⟩; have hB := Keeps.call hb (by assumption); (try replace q1 := q1.below hb))
          | (go_at_call 46; (refine (sets_either (fromL (l.take hf)) (fromL (l.drop hf)) _ _ _ q1 q2 ?_ ?_ (fromL_rise _) (fromL_rise _)).mono ?_); (have := fromL_len (l.take hf); simp at this; omega); (have := fromL_len (l.drop hf); simp at this; omega); rintro e w1 ⟨⟨v3, rfl, q3⟩, hb⟩; have hB := Keeps.call hb (by assumption))))
      all_goals go_wp2
      all_goals go_ret
      all_goals
        refine ⟨⟨_, rfl, ?_⟩, hB.1⟩
        rw [HF.out, List.take_append_drop] at q3
        exact q3

theorem sets_from (l : List Int) (v : Value) (w : World) (hl : IntsAt w v l) (hlen : l.length ≤ 100000000) :
    Calls Try.prog 56 #[v] w fun e w' => GivesInts w (fromL l) e w' := sets_from_at l.length l v w (Nat.le_refl _) hl hlen

end Go.Proofs.Ytacmigimkdiagaa
