/- Regions that draw their order and whose operations each come to one value, whatever world that meets a condition they are run in: one walk, in the text's order, calls and all. -/
import Derived.Test.YtacmigimkdiagaaBase
import Derived.OrdersHeld
namespace Go.Proofs.Ytacmigimkdiagaa
open Go.RowKit
set_option linter.unusedVariables false
set_option linter.unusedSimpArgs false

section
variable {P : Program} {ops : Array Oper} {Q : Exit → Act → World → Prop} {md : Region.Mode} {S : World → Prop}

/-- The run comes to this value, in a world that meets the condition. -/
def StepsTo (P : Program) (S : World → Prop) (v : Value) (r : Result Next) : Prop :=
  match r with
  | .ok (.value u) w' => u = v ∧ S w'
  | .ok .skip w' => undef = v ∧ S w'
  | .ok (.enter f args) w' => Calls P f args w' fun e w'' => e = .returned v ∧ S w''
  | _ => False
theorem StepsTo.wp {o : Oper} {a : Act} {w : World} {v : Value} {K : Act → World → Prop} (h : StepsTo P S v ((execOp a.eval o).run P w)) (hK : ∀ w', S w' → K (a.put o.dst v) w') : o.wp P a w K Q := by
  unfold Oper.wp
  generalize (execOp a.eval o).run P w = r at *
  cases r with
  | halt x w' => exact h.elim
  | ok n w' =>
    cases n <;> simp only [StepsTo, Oper.upon] at h ⊢
    case value u => obtain ⟨rfl, hS⟩ := h; exact hK _ hS
    case skip => obtain ⟨rfl, hS⟩ := h; exact hK _ hS
    case enter f args =>
      refine h.mono ?_
      rintro e w'' ⟨rfl, hS⟩
      exact hK _ hS

theorem StepsTo.enter {f : FuncId} {args : Array Value} {w : World} {v : Value} (h : Calls P f args w fun e w'' => e = .returned v ∧ S w'') : StepsTo P S v (.ok (.enter f args) w) := h

def StableOp (P : Program) (ops : Array Oper) (S : World → Prop) (o : Oper) (v : Value) (a : Act) : Prop :=
  (Region.wanted o (yielded ops a.tmps) = true ∧ ∀ w, S w → StepsTo P S v ((execOp a.eval o).run P w)) ∨ (Region.wanted o (yielded ops a.tmps) = false ∧ v = undef)
theorem StableOp.of_same {o : Oper} {v : Value} {a a' : Act} (hy : StableOp P ops S o v a) (he : execOp a'.eval o = execOp a.eval o)
    (hw : Region.wanted o (yielded ops a'.tmps) = Region.wanted o (yielded ops a.tmps)) : StableOp P ops S o v a' := by
  unfold StableOp at *
  rw [he, hw]
  exact hy
theorem StableOp.wpOp {i : Nat} {o : Oper} {v : Value} {a : Act} (hi : ops[i]? = some o) (hy : StableOp P ops S o v a) {K : Act → World → Prop} {w : World} (hS : S w) (h : ∀ w', S w' → K (a.put o.dst v) w') : wpOp P ops Q i K a w := by
  unfold Go.wpOp
  simp only [hi]
  rcases hy with ⟨hw, hv⟩ | ⟨hw, rfl⟩
  · simp only [hw, if_true]
    exact .inl ((hv w hS).wp h)
  · simp only [hw, Bool.false_eq_true, if_false]
    exact h w hS

/-- Whatever order is picked from here on. -/
def St (P : Program) (md : Region.Mode) (ops : Array Oper) (Q : Exit → Act → World → Prop) (S : World → Prop) : Nat → Array Bool → Act → Prop
  | 0, listed, a => Region.ready md ops listed = [] ∧ ∀ w, S w → Q .normal a w
  | fuel + 1, listed, a => (Region.ready md ops listed = [] → ∀ w, S w → Q .normal a w) ∧
    ∀ i ∈ Region.ready md ops listed, ∃ o v, ops[i]? = some o ∧ StableOp P ops S o v a ∧ St P md ops Q S fuel (listed.setIfInBounds i true) (a.put o.dst v)
theorem St.any : ∀ (fuel : Nat) (listed : Array Bool) (a : Act), St P md ops Q S fuel listed a → ∀ w, S w → wpAny P md ops Q fuel listed a w
  | 0, _, _, h, w, hS => ⟨h.1, h.2 w hS⟩
  | fuel + 1, listed, a, h, w, hS => ⟨fun h0 => h.1 h0 w hS, fun i hi => by
    obtain ⟨o, v, ho, hy, hr⟩ := h.2 i hi
    exact hy.wpOp ho hS fun w' hS' => St.any fuel _ _ hr w' hS'⟩
theorem St.first {i : Nat} {oi : Oper} {v : Value} (hi : ops[i]? = some oi) (hsel : ∀ (j : Nat) (o : Oper) cs b, ops[j]? = some o → o.op ≠ .select cs b) :
    ∀ (fuel : Nat) (listed : Array Bool) (a : Act),
      (∀ j oj, ops[j]? = some oj → j ≠ i → listed.getD j true = false → (∀ e ∈ oj.after, Region.binds md e = true → e.on ≠ i) → oi.apart ops oj = true) →
      i ∈ Region.ready md ops listed → StableOp P ops S oi v a → St P md ops Q S fuel (listed.setIfInBounds i true) (a.put oi.dst v) → St P md ops Q S (fuel + 1) listed a := by
  intro fuel
  induction fuel with
  | zero =>
    intro listed a _ hr hy H
    refine ⟨fun h => (by rw [h] at hr; cases hr), fun j hj => ?_⟩
    by_cases hji : j = i
    · subst hji; exact ⟨oi, v, hi, hy, H⟩
    · have := ready_mono hj hji
      rw [H.1] at this
      cases this
  | succ fuel ih =>
    intro listed a hfree hr hy H
    refine ⟨fun h => (by rw [h] at hr; cases hr), fun j hj => ?_⟩
    by_cases hji : j = i
    · subst hji; exact ⟨oi, v, hi, hy, H⟩
    · obtain ⟨oj', u, hoj', hyj, H2⟩ := H.2 j (ready_mono hj hji)
      obtain ⟨hjun, oj, hoj, hall⟩ := mem_ready.1 hj
      obtain rfl : oj' = oj := by rw [hoj] at hoj'; cases hoj'; rfl
      have hnot : ∀ e ∈ oj'.after, Region.binds md e = true → e.on ≠ i := fun e he hb heq => by
        have h1 := hall e he hb
        have h0 := (mem_ready.1 hr).1
        rw [heq] at h1
        rcases Nat.lt_or_ge i listed.size with h' | h'
        · simp [h'] at h0 h1; rw [h0] at h1; cases h1
        · simp [Array.getElem?_eq_none h'] at h1
      have hap := hfree j oj' hoj hji hjun hnot
      obtain ⟨h1, h2, h3⟩ := Oper.apart_spec hap
      have hsi := fun cs b => hsel i oi cs b hi
      have hsj := fun cs b => hsel j oj' cs b hoj
      have hyj' : StableOp P ops S oj' u a := hyj.of_same (execOp_put oj' hsj a oi.dst v h1).symm (wanted_put oj' a oi.dst v h1).symm
      have hyi' : StableOp P ops S oi v (a.put oj'.dst u) := hy.of_same (execOp_put oi hsi a oj'.dst u h3) (wanted_put oi a oj'.dst u h3)
      refine ⟨oj', u, hoj, hyj', ih (listed.setIfInBounds j true) (a.put oj'.dst u) ?_ (ready_mono hr (Ne.symm hji)) hyi' ?_⟩
      · intro k ok hk hki hun hno
        refine hfree k ok hk hki ?_ hno
        by_cases hjk : j = k
        · subst hjk; exact hjun
        · rw [getD_set_ne true hjk] at hun; exact hun
      · rw [Array.setIfInBounds_comm _ _ hji, ← Act.put_comm a v u h2]
        exact H2

/-- Take number i: it may come up, and nobody who could come before it touches its slots. -/
theorem St.take {i : Nat} {oi : Oper} {v : Value} {fuel : Nat} {listed : Array Bool} {a : Act} (hi : ops[i]? = some oi)
    (hs : Region.noSelect ops = true) (hf : Region.free md ops listed i = true) (hr : (Region.ready md ops listed).contains i = true)
    (hw : Region.wanted oi (yielded ops a.tmps) = true) (hy : ∀ w, S w → StepsTo P S v ((execOp a.eval oi).run P w))
    (h : St P md ops Q S fuel (listed.setIfInBounds i true) (a.put oi.dst v)) : St P md ops Q S (fuel + 1) listed a :=
  St.first hi (Region.noSelect_spec hs) fuel listed a (Region.free_spec hi hf) (by simpa using hr) (.inl ⟨hw, hy⟩) h
/-- Leave number i out: its guard says so. -/
theorem St.leave {i : Nat} {oi : Oper} {fuel : Nat} {listed : Array Bool} {a : Act} (hi : ops[i]? = some oi)
    (hs : Region.noSelect ops = true) (hf : Region.free md ops listed i = true) (hr : (Region.ready md ops listed).contains i = true)
    (hw : Region.wanted oi (yielded ops a.tmps) = false)
    (h : St P md ops Q S fuel (listed.setIfInBounds i true) (a.put oi.dst undef)) : St P md ops Q S (fuel + 1) listed a :=
  St.first hi (Region.noSelect_spec hs) fuel listed a (Region.free_spec hi hf) (by simpa using hr) (.inr ⟨hw, rfl⟩) h
theorem St.done {listed : Array Bool} {a : Act} (hr : Region.ready md ops listed = []) (h : ∀ w, S w → Q .normal a w) : ∀ fuel, St P md ops Q S fuel listed a
  | 0 => ⟨hr, h⟩
  | _ + 1 => ⟨fun _ => h, by rw [hr]; intro i hi; cases hi⟩

/-- The first i operations of n have come up. -/
def listedTo (n i : Nat) : Array Bool := ((List.range n).map fun j => decide (j < i)).toArray
theorem listedTo_zero (n : Nat) : Array.replicate n false = listedTo n 0 := by
  apply Array.ext
  · simp [listedTo]
  · intro i h1 h2
    simp [listedTo]
theorem listedTo_succ (n i : Nat) : (listedTo n i).setIfInBounds i true = listedTo n (i + 1) := by
  apply Array.ext
  · simp [listedTo]
  · intro j h1 h2
    simp only [listedTo, List.setIfInBounds_toArray, List.getElem_toArray, List.getElem_set, List.getElem_map, List.getElem_range]
    split
    · rename_i h
      subst h
      simp
    · rename_i h
      rw [Bool.eq_iff_iff]
      simp only [decide_eq_true_eq]
      omega
/-- May the operations be taken in the text's order? -/
def lexOK (md : Region.Mode) (ops : Array Oper) : Bool :=
  Region.noSelect ops && (List.range ops.size).all fun i => (Region.ready md ops (listedTo ops.size i)).contains i && Region.free md ops (listedTo ops.size i) i
/-- These operations, in the text's order. -/
def Lex (P : Program) (ops : Array Oper) (S : World → Prop) (F : Act → Prop) : List Oper → Act → Prop
  | [], a => F a
  | o :: rest, a => ∃ v, StableOp P ops S o v a ∧ Lex P ops S F rest (a.put o.dst v)
theorem Lex.st (hok : lexOK md ops = true) : ∀ (k i : Nat) (a : Act), i + k = ops.size → Lex P ops S (fun a' => ∀ w, S w → Q .normal a' w) (ops.toList.drop i) a → St P md ops Q S k (listedTo ops.size i) a := by
  unfold lexOK at hok
  rw [Bool.and_eq_true, List.all_eq_true] at hok
  obtain ⟨hs, hall⟩ := hok
  intro k
  induction k with
  | zero =>
    intro i a hi h
    have hd : ops.toList.drop i = [] := List.drop_eq_nil_of_le (by simp; omega)
    rw [hd] at h
    refine ⟨?_, h⟩
    unfold Region.ready
    rw [List.filter_eq_nil_iff]
    intro j hj
    rw [List.mem_range] at hj
    have : (listedTo ops.size i).getD j true = true := by
      simp only [listedTo, Array.getD_eq_getD_getElem?, List.getElem?_toArray, List.getElem?_map, List.getElem?_range hj, Option.map_some, Option.getD_some, decide_eq_true_eq]
      omega
    simp [this]
  | succ k ih =>
    intro i a hi h
    have hlt : i < ops.size := by omega
    have hd : ops.toList.drop i = ops[i] :: ops.toList.drop (i + 1) := by
      rw [List.drop_eq_getElem_cons (by simpa using hlt)]
      simp
    rw [hd] at h
    obtain ⟨v, hy, hr⟩ := h
    have h0 := hall i (by simpa using hlt)
    rw [Bool.and_eq_true] at h0
    have hi' : ops[i]? = some ops[i] := by simp [hlt]
    refine St.first hi' (Region.noSelect_spec hs) k (listedTo ops.size i) a (Region.free_spec hi' h0.2) (by simpa using h0.1) hy ?_
    rw [listedTo_succ]
    exact ih (i + 1) _ (by omega) hr
theorem Lex.take {F : Act → Prop} {o : Oper} {rest : List Oper} {a : Act} {v : Value} (hw : Region.wanted o (yielded ops a.tmps) = true) (hy : ∀ w, S w → StepsTo P S v ((execOp a.eval o).run P w))
    (h : Lex P ops S F rest (a.put o.dst v)) : Lex P ops S F (o :: rest) a := ⟨v, .inl ⟨hw, hy⟩, h⟩
theorem Lex.leave {F : Act → Prop} {o : Oper} {rest : List Oper} {a : Act} (hw : Region.wanted o (yielded ops a.tmps) = false) (h : Lex P ops S F rest (a.put o.dst undef)) : Lex P ops S F (o :: rest) a := ⟨undef, .inr ⟨hw, rfl⟩, h⟩
theorem Lex.nil {F : Act → Prop} {a : Act} (h : F a) : Lex P ops S F [] a := h
/-- The beginning. -/
theorem wp_region_lex {id : Nat} {l : List Oper} {a : Act} {w : World} (S : World → Prop) (hm : P.follows .mixedOrders = true) (hok : lexOK .any l.toArray = true) (hS : S w.drew)
    (h : Lex P l.toArray S (fun a' => ∀ w', S w' → Q .normal a' w') l a) : (Code.region id l.toArray true).wp P Q a w := by
  refine wp_region_any hm (St.any _ _ _ ?_ _ hS)
  rw [listedTo_zero]
  exact Lex.st hok _ 0 a (by omega) (by simpa using h)
end

end Go.Proofs.Ytacmigimkdiagaa
