/- The arms that get on: the least set of arms that holds whoever is free. -/
import Derived.Test.YtacmigimkdiagaaMutOn
namespace Go.Proofs.Ytacmigimkdiagaa
open Go.RowKit
set_option linter.unusedVariables false
set_option linter.unusedSimpArgs false

/-- Whoever is free is in it. -/
def Closed (t ws : List Int) (C : List Bool) : Prop := ∀ i, 1 ≤ i → i ≤ 8 → freeB t ws C i = true → C.getD i false = true
def Within (a b : List Bool) : Prop := ∀ i, a.getD i false = true → b.getD i false = true
theorem freeB_mono {t ws : List Int} {a b : List Bool} (h : Within a b) {i : Nat} (hf : freeB t ws a i = true) : freeB t ws b i = true := by
  unfold freeB at *
  rw [Bool.or_eq_true] at hf ⊢
  rcases hf with h1 | h1
  · exact .inl h1
  · exact .inr (h _ h1)
/-- On the way: nine flags, nobody's is off, all within whatever is closed. -/
def Below9 (t ws : List Int) (F : List Bool) : Prop := F.length = 9 ∧ F.getD 0 false = false ∧ ∀ C, Closed t ws C → Within F C
def Least (t ws : List Int) (F : List Bool) : Prop := Below9 t ws F ∧ Closed t ws F
theorem below9_none (t ws : List Int) : Below9 t ws (List.replicate 9 false) := by
  refine ⟨by simp, rfl, fun C _ i h => ?_⟩
  rw [List.getD_eq_getElem?_getD, List.getElem?_replicate] at h
  split at h <;> simp at h
theorem Least.uniq {t ws : List Int} {F G : List Bool} (hF : Least t ws F) (hG : Least t ws G) : F = G := by
  refine ext9 hF.1.1 hG.1.1 fun i _ => ?_
  have h1 := hF.1.2.2 G hG.2 i
  have h2 := hG.1.2.2 F hF.2 i
  rw [Bool.eq_iff_iff]
  exact ⟨h1, h2⟩
theorem Below9.on {t ws : List Int} {F : List Bool} (h : Below9 t ws F) : Below9 t ws (onT t ws F) := by
  refine ⟨onN_length _ _ _ _, ?_, fun C hC i hi => ?_⟩
  · show (onN t ws F 9).getD 0 false = false
    rw [onN_get _ _ _ _ (by omega), h.2.1]
    rfl
  · by_cases h9 : i < 9
    · have h1 : (onN t ws F 9).getD i false = true := hi
      rw [onN_get _ _ _ _ h9] at h1
      rw [Bool.or_eq_true, Bool.and_eq_true, Bool.and_eq_true] at h1
      rcases h1 with h1 | ⟨⟨h1, _⟩, h2⟩
      · exact h.2.2 C hC i h1
      · exact hC i (by simpa using h1) (by omega) (freeB_mono (h.2.2 C hC) h2)
    · exfalso
      have hl := onN_length t ws F 9
      rw [List.getD_eq_getElem?_getD, List.getElem?_eq_none (by show (onN t ws F 9).length ≤ i; omega)] at hi
      simp at hi
theorem Below9.least {t ws : List Int} {F : List Bool} (h : Below9 t ws F) (he : onT t ws F = F) : Least t ws F := by
  refine ⟨h, fun i h1 h8 hf => ?_⟩
  rw [← he]
  show (onN t ws F 9).getD i false = true
  rw [onN_get _ _ _ _ (by omega), hf, decide_eq_true h1, decide_eq_true (show i < 9 by omega)]
  simp
/-- How many are off. -/
def offN (F : List Bool) : Nat := ((List.range 9).filter fun i => !F.getD i false).length
theorem filter_le_of {α : Type} (p q : α → Bool) (h : ∀ x, q x = true → p x = true) : ∀ l : List α, (l.filter q).length ≤ (l.filter p).length
  | [] => Nat.le_refl _
  | x :: l => by
    have ih := filter_le_of p q h l
    rw [List.filter_cons, List.filter_cons]
    cases hq : q x
    · cases p x <;> simp <;> omega
    · rw [h x hq]
      simpa using ih
theorem filter_lt_of {α : Type} (p q : α → Bool) (h : ∀ x, q x = true → p x = true) : ∀ l : List α, (∃ x ∈ l, p x = true ∧ q x = false) → (l.filter q).length < (l.filter p).length
  | [], ⟨_, hx, _⟩ => by cases hx
  | x :: l, hex => by
    have ih := filter_le_of p q h l
    rw [List.filter_cons, List.filter_cons]
    by_cases hx : p x = true ∧ q x = false
    · rw [hx.1, hx.2]
      simp
      omega
    · have hl := filter_lt_of p q h l (by
        obtain ⟨y, hy, h1⟩ := hex
        rcases List.mem_cons.1 hy with rfl | hy
        · exact absurd h1 hx
        · exact ⟨y, hy, h1⟩)
      cases hq : q x
      · cases hp : p x
        · simpa using hl
        · exact absurd ⟨hp, hq⟩ hx
      · rw [h x hq]
        simpa using hl
theorem offN_le (F : List Bool) : offN F ≤ 9 := by
  have := List.length_filter_le (fun i => !F.getD i false) (List.range 9)
  simpa [offN] using this
theorem offN_lt {F G : List Bool} (hF : F.length = 9) (hG : G.length = 9) (hw : Within F G) (hne : G ≠ F) : offN G < offN F := by
  unfold offN
  refine filter_lt_of _ _ (fun i hi => ?_) _ ?_
  · cases hf : F.getD i false
    · rfl
    · rw [hw i hf] at hi
      simp at hi
  · refine Classical.byContradiction fun hn => hne (ext9 hG hF fun i hi => ?_)
    cases hf : F.getD i false
    · cases hg : G.getD i false
      · rfl
      · exact absurd ⟨i, by simpa using hi, by rw [hf]; rfl, by rw [hg]; rfl⟩ hn
    · exact hw i hf
theorem onT_within (t ws : List Int) {F : List Bool} (hF : F.length = 9) : Within F (onT t ws F) := by
  intro i hi
  by_cases h9 : i < 9
  · show (onN t ws F 9).getD i false = true
    rw [onN_get _ _ _ _ h9, hi]
    rfl
  · rw [List.getD_eq_getElem?_getD, List.getElem?_eq_none (by omega)] at hi
    simp at hi
/-- Those that are stuck. -/
def stuckN (F : List Bool) (k : Nat) : List Int := ((List.range k).filter fun i => decide (1 ≤ i) && !F.getD i false).map fun (i : Nat) => (i : Int)
def stuckOf (F : List Bool) : List Int := stuckN F 9
theorem stuckN_succ (F : List Bool) {k : Nat} (h1 : 1 ≤ k) : stuckN F (k + 1) = stuckN F k ++ if F.getD k false = true then [] else [(k : Int)] := by
  unfold stuckN
  rw [List.range_succ, List.filter_append, List.map_append]
  congr 1
  cases h : F.getD k false <;> simp only [List.filter_cons, h, List.filter_nil, decide_eq_true h1] <;> rfl
theorem stuckN_one (F : List Bool) : stuckN F 1 = [] := rfl
theorem stuckN_le (F : List Bool) (k : Nat) : (stuckN F k).length ≤ k := by
  unfold stuckN
  rw [List.length_map]
  have := List.length_filter_le (fun i => decide (1 ≤ i) && !F.getD i false) (List.range k)
  simpa using this
theorem mem_stuckOf {F : List Bool} {x : Int} : x ∈ stuckOf F ↔ ∃ i : Nat, x = i ∧ 1 ≤ i ∧ i ≤ 8 ∧ F.getD i false = false := by
  unfold stuckOf stuckN
  simp only [List.mem_map, List.mem_filter, List.mem_range, Bool.and_eq_true, decide_eq_true_eq]
  constructor
  · rintro ⟨i, ⟨h9, h1, hf⟩, rfl⟩
    exact ⟨i, rfl, h1, by omega, by simpa using hf⟩
  · rintro ⟨i, rfl, h1, h8, hf⟩
    exact ⟨i, ⟨by omega, h1, by simpa using hf⟩, rfl⟩

end Go.Proofs.Ytacmigimkdiagaa
