/- Slices of structs: what they hold, and appending to a slice of the call's own: the laws that the walks use. -/
import Derived.Test.YtacmigimkdiagaaBase
import Derived.ArgAppend
import Derived.Laws.AppendOwnNone
namespace Go.Proofs.Ytacmigimkdiagaa
open Go.RowKit
set_option linter.unusedVariables false
set_option linter.unusedSimpArgs false

/-- A value is a slice of these rows, each of so many cells. -/
def RowsAt {α : Type} (sz : Nat) (f : α → List Value) (w : World) (v : Value) (l : List α) : Prop :=
  ∃ a cap, v = .slice a l.length cap ∧ l.length ≤ cap ∧ cap ≤ maxLen ∧ (a = none → cap = 0) ∧ (l ≠ [] → ∃ b off, a = some ⟨b, off, none⟩ ∧ b < w.heap.size ∧
    ∀ i x, l[i]? = some x → ∀ j u, (f x)[j]? = some u → w.cell? ⟨b, off + i * sz + j, none⟩ = some u)

section
variable {α : Type} {sz : Nat} {f : α → List Value} {w : World} {v : Value} {l : List α}

theorem RowsAt.below {w' : World} (h : RowsAt sz f w v l) (hb : Below w.heap.size w w') : RowsAt sz f w' v l := by
  obtain ⟨a, cap, hv, hl, hm, hn, hc⟩ := h
  refine ⟨a, cap, hv, hl, hm, hn, fun hne => ?_⟩
  obtain ⟨b, off, ha, hs, hi⟩ := hc hne
  refine ⟨b, off, ha, Nat.lt_of_lt_of_le hs hb.size, fun i x hx j u hu => ?_⟩
  rw [hb.cell (p := ⟨b, _, none⟩) hs]
  exact hi i x hx j u hu
theorem RowsAt.alloc (h : RowsAt sz f w v l) (o : Obj) : RowsAt sz f (w.alloc o) v l := h.below ((Below.refl _ _).alloc (Nat.le_refl _) o)
theorem RowsAt.drew (h : RowsAt sz f w v l) : RowsAt sz f w.drew v l := h.below (below_drew w)
theorem RowsAt.nil (sz : Nat) (f : α → List Value) (w : World) : RowsAt sz f w (.slice none 0 0) [] := ⟨none, 0, rfl, by simp, by simp, fun _ => rfl, fun h => absurd rfl h⟩
/-- What the walk reads of one row. -/
theorem RowsAt.get {a : Option Addr} {n cap k : Nat} (h : RowsAt sz f w (.slice a n cap) l) {x : α} (hk : l[k]? = some x) :
    ∃ b off, a = some ⟨b, off, none⟩ ∧ b < w.heap.size ∧ ∀ j u, (f x)[j]? = some u → w.cell? ⟨b, off + k * sz + j, none⟩ = some u := by
  obtain ⟨a', cap', hv, _, _, _, hc⟩ := h
  simp only [Value.slice.injEq] at hv
  obtain ⟨rfl, rfl, rfl⟩ := hv
  obtain ⟨b, off, ha, hs, hi⟩ := hc (by intro h0; simp [h0] at hk)
  exact ⟨b, off, ha, hs, hi k x hk⟩
/-- The first rows. -/
theorem RowsAt.front {a : Option Addr} {n cap : Nat} (h : RowsAt sz f w (.slice a n cap) l) (k : Nat) (hk : k ≤ l.length) : RowsAt sz f w (.slice a k cap) (l.take k) := by
  obtain ⟨a', cap', hv, hl, hm, hn, hc⟩ := h
  simp only [Value.slice.injEq] at hv
  obtain ⟨rfl, rfl, rfl⟩ := hv
  refine ⟨a, cap, by rw [List.length_take]; congr 1; omega, by rw [List.length_take]; omega, hm, hn, fun hne => ?_⟩
  obtain ⟨b, off, ha, hs, hi⟩ := hc (by intro h0; simp [h0] at hne)
  refine ⟨b, off, ha, hs, fun i x hx j u hu => hi i x ?_ j u hu⟩
  rw [List.getElem?_take] at hx
  split at hx
  · exact hx
  · cases hx

theorem flat_get (hf : ∀ x, (f x).length = sz) : ∀ (l : List α) (i : Nat) (x : α), l[i]? = some x → ∀ j, j < sz → (l.flatMap f)[i * sz + j]? = (f x)[j]?
  | [], i, x, h, j, hj => by simp at h
  | y :: l, 0, x, h, j, hj => by
    simp at h
    subst h
    rw [List.flatMap_cons, List.getElem?_append_left (by rw [hf]; omega)]
    simp
  | y :: l, i + 1, x, h, j, hj => by
    have := flat_get hf l i x (by simpa using h) j hj
    rw [List.flatMap_cons, List.getElem?_append_right (by rw [hf, Nat.succ_mul]; omega), hf, ← this]
    congr 1
    rw [Nat.succ_mul]
    omega
theorem flat_length (hf : ∀ x, (f x).length = sz) (l : List α) : (l.flatMap f).length = l.length * sz := by
  induction l with
  | nil => simp
  | cons y l ih => rw [List.flatMap_cons, List.length_append, hf, ih, List.length_cons, Nat.succ_mul]; omega
theorem flat_mem_get (hf : ∀ x, (f x).length = sz) {j : Nat} {u : Value} (h : (l.flatMap f)[j]? = some u) :
    ∃ i x k, l[i]? = some x ∧ (f x)[k]? = some u ∧ j = i * sz + k := by
  have hj := (List.getElem?_eq_some_iff.1 h).1
  rw [flat_length hf] at hj
  have hsz : 0 < sz := by
    rcases Nat.eq_zero_or_pos sz with h0 | h0
    · subst h0; simp at hj
    · exact h0
  have hi : j / sz < l.length := Nat.div_lt_of_lt_mul (by rw [Nat.mul_comm]; exact hj)
  have hm := Nat.mod_lt j hsz
  have hdm : j = j / sz * sz + j % sz := by rw [Nat.mul_comm]; exact (Nat.div_add_mod j sz).symm
  refine ⟨j / sz, l[j / sz], j % sz, List.getElem?_eq_getElem hi, ?_, hdm⟩
  rw [← flat_get hf l (j / sz) _ (List.getElem?_eq_getElem hi) _ hm, ← hdm]
  exact h

/-- A slice of the call's own that holds these rows. -/
abbrev OwnRows {α : Type} (e : TypeId) (sz : Nat) (f : α → List Value) (w : World) (base : Nat) (v : Value) (l : List α) : Prop := w.ownsRow base e sz v l.length (l.flatMap f)

variable {e : TypeId} {base : Nat}
theorem OwnRows.nil (e : TypeId) (sz : Nat) (f : α → List Value) (w : World) (base : Nat) : OwnRows e sz f w base (.slice none 0 0) [] := World.ownsRow_nil _ _ _ _
theorem OwnRows.alloc (h : OwnRows e sz f w base v l) (o : Obj) : OwnRows e sz f (w.alloc o) base v l := World.ownsRow.alloc h o
theorem OwnRows.drew (h : OwnRows e sz f w base v l) : OwnRows e sz f w.drew base v l := h
theorem OwnRows.below {w' : World} (h : OwnRows e sz f w base v l) (hb : Below w.heap.size w w') : OwnRows e sz f w' base v l := by
  obtain ⟨h1, h2⟩ := h
  refine ⟨h1, ?_⟩
  rcases h2 with h2 | ⟨g, cap, cur, hv, hg, hh, r⟩
  · exact .inl h2
  · exact .inr ⟨g, cap, cur, hv, hg, by rw [hb.block g (Array.getElem?_eq_some_iff.1 hh).1]; exact hh, r⟩
theorem OwnRows.rows (hf : ∀ x, (f x).length = sz) (h : OwnRows e sz f w base v l) : RowsAt sz f w v l := by
  rcases h.2 with ⟨rfl, hn⟩ | ⟨g, cap, cur, rfl, hg, hh, hnc, hcm, hcs, htake⟩
  · have : l = [] := by simpa using hn
    subst this
    exact RowsAt.nil sz f w
  · refine ⟨_, cap, rfl, hnc, hcm, fun h => by simp at h, fun _ => ⟨g, 0, rfl, (Array.getElem?_eq_some_iff.1 hh).1, fun i x hx j u hu => ?_⟩⟩
    have hj : j < sz := by rw [← hf x]; exact (List.getElem?_eq_some_iff.1 hu).1
    have h1 := World.ownsRow.cells h (g := g) rfl (i * sz + j) u (by rw [flat_get hf l i x hx j hj]; exact hu)
    have hadd : (⟨g, 0, none⟩ : Addr).add (i * sz + j) = ⟨g, 0 + i * sz + j, none⟩ := by
      unfold Addr.add
      split
      · congr 1; omega
      · simp
    rw [← hadd]
    exact h1
theorem OwnRows.grown {w' : World} (h : OwnRows e sz f w base v l) (hg : w.grownBy w' v.ownBlock) (hbase : base ≤ w.heap.size) : Below base w w' :=
  (Below.refl _ _).grown hg hbase fun k hk => (World.ownsRow.lt h k hk).1

/-- append to a slice of the call's own, from whatever slice of rows: one step. -/
theorem wp_append_rows (hf : ∀ x, (f x).length = sz) (h1 : ∀ x, ∀ u ∈ f x, u.oneCell' = true) {o : Oper} {a : Act} {K : Act → World → Prop} {Q : Exit → Act → World → Prop} (s x : Operand) (t : TypeId)
    (ho : o.op = .call { callee := .builtin .append, args := #[s, x], argTypes := #[t, t] })
    (base : Nat) (e : TypeId) (z : Value) (bytes : Nat) (ht : Try.prog.underlying t = some (.slice e)) (hinfo : (Try.prog.info? e).map (fun i => (i.zero, i.size, i.bytes)) = some (some z, sz, bytes))
    (hzs : z.cells.size = sz) (hsz : 0 < sz) (hbs : bytes ≤ 64)
    (v : Value) (xs : List α) (hs : a.eval s = v) (hown : OwnRows e sz f w base v xs)
    (y : Value) (ys : List α) (hx : a.eval x = y) (hy : RowsAt sz f w y ys) (hlen : xs.length + ys.length ≤ 1099511627776) (hbase : base ≤ w.heap.size)
    (h : ∀ v' w', OwnRows e sz f w' base v' (xs ++ ys) → w.grownBy w' v.ownBlock → Below base w w' → K (a.put o.dst v') w') : o.wp Try.prog a w K Q := by
  obtain ⟨i, hi, hz0, hz1, hz2⟩ := info_parts hinfo
  have hK : ∀ v' w', w'.ownsRow base e sz v' (xs.length + ys.length) (xs.flatMap f ++ ys.flatMap f) → w.grownBy w' v.ownBlock → K (a.put o.dst v') w' := by
    intro v' w' h2 h3
    refine h v' w' ?_ h3 ((Below.refl _ _).grown h3 hbase fun k hk => (World.ownsRow.lt hown k hk).1)
    unfold OwnRows
    rw [List.length_append, List.flatMap_append]
    exact h2
  obtain ⟨ad, cap, rfl, hmc, hcm, hnone, hcell⟩ := hy
  cases ad with
  | none =>
    have hc0 := hnone rfl
    subst hc0
    have hm0 : ys = [] := by
      cases ys with
      | nil => rfl
      | cons _ _ => simp at hmc
    subst hm0
    have hrun := run_append_owned_none (P := Try.prog) (w := w) base t o.type e i sz ht hi v _ _ hown
    unfold Oper.wp
    simp [execOp, ho, resolve, invoke, builtin, hs, hx, hrun, Result.andThen]
    exact hK v w (by simpa using hown) ⟨rfl, rfl, rfl, Nat.le_refl _, fun _ _ _ => rfl⟩
  | some ad =>
    refine wp_append_own w s x t ho base e i z sz bytes ht hi hz0 hz1 hz2 hzs hsz v _ _ hs hown ad ys.length cap (ys.flatMap f) hx (flat_length hf ys) ?_ ?_ ?_ ?_ hbase fun v' w' h2 h3 _ => hK v' w' h2 h3
    · intro j u hj
      obtain ⟨i', x', k, hx', hu, rfl⟩ := flat_mem_get hf hj
      obtain ⟨b, off, hadd, _, hc⟩ := hcell (by intro h0; simp [h0] at hx')
      obtain rfl := Option.some.inj hadd
      have hjn : (⟨b, off, none⟩ : Addr).add (i' * sz + k) = ⟨b, off + i' * sz + k, none⟩ := by
        unfold Addr.add
        split
        · congr 1; omega
        · simp [Nat.add_assoc]
      rw [hjn]
      exact hc i' x' hx' k u hu
    · intro u hu
      obtain ⟨x', _, hu'⟩ := List.mem_flatMap.1 hu
      exact h1 x' u hu'
    · unfold maxLen; omega
    · have : (xs.length + ys.length) * bytes ≤ 1099511627776 * 64 := Nat.mul_le_mul hlen hbs
      omega

theorem wpList_append_rows (hf : ∀ x, (f x).length = sz) (h1 : ∀ x, ∀ u ∈ f x, u.oneCell' = true) {ops : Array Oper} {rest : List Oper} {o : Oper} {a : Act} {Q : Exit → Act → World → Prop} (hgd : o.guard = none) (s x : Operand) (t : TypeId)
    (ho : o.op = .call { callee := .builtin .append, args := #[s, x], argTypes := #[t, t] })
    (base : Nat) (e : TypeId) (z : Value) (bytes : Nat) (ht : Try.prog.underlying t = some (.slice e)) (hinfo : (Try.prog.info? e).map (fun i => (i.zero, i.size, i.bytes)) = some (some z, sz, bytes))
    (hzs : z.cells.size = sz) (hsz : 0 < sz) (hbs : bytes ≤ 64)
    (v : Value) (xs : List α) (hs : a.eval s = v) (hown : OwnRows e sz f w base v xs)
    (y : Value) (ys : List α) (hx : a.eval x = y) (hy : RowsAt sz f w y ys) (hlen : xs.length + ys.length ≤ 1099511627776) (hbase : base ≤ w.heap.size)
    (h : ∀ v' w', OwnRows e sz f w' base v' (xs ++ ys) → w.grownBy w' v.ownBlock → Below base w w' → wpList Try.prog ops Q rest (a.put o.dst v') w') : wpList Try.prog ops Q (o :: rest) a w :=
  wpList_plain hgd fun _ hK => wp_append_rows hf h1 s x t ho base e z bytes ht hinfo hzs hsz hbs v xs hs hown y ys hx hy hlen hbase fun v' w' h2 h3 h4 => hK _ _ (h v' w' h2 h3 h4)

/-- The same as a step of a region that draws its order. -/
theorem step_append_rows (hf : ∀ x, (f x).length = sz) (h1 : ∀ x, ∀ u ∈ f x, u.oneCell' = true) {ops : Array Oper} {o : Oper} {a : Act} {K : Act → World → Prop} {Q : Exit → Act → World → Prop} {E : Prop} (hgd : o.guard = none) (s x : Operand) (t : TypeId)
    (ho : o.op = .call { callee := .builtin .append, args := #[s, x], argTypes := #[t, t] })
    (base : Nat) (e : TypeId) (z : Value) (bytes : Nat) (ht : Try.prog.underlying t = some (.slice e)) (hinfo : (Try.prog.info? e).map (fun i => (i.zero, i.size, i.bytes)) = some (some z, sz, bytes))
    (hzs : z.cells.size = sz) (hsz : 0 < sz) (hbs : bytes ≤ 64)
    (v : Value) (xs : List α) (hs : a.eval s = v) (hown : OwnRows e sz f w base v xs)
    (y : Value) (ys : List α) (hx : a.eval x = y) (hy : RowsAt sz f w y ys) (hlen : xs.length + ys.length ≤ 1099511627776) (hbase : base ≤ w.heap.size)
    (h : ∀ v' w', OwnRows e sz f w' base v' (xs ++ ys) → w.grownBy w' v.ownBlock → Below base w w' → K (a.put o.dst v') w') :
    if Region.wanted o (yielded ops a.tmps) = true then Oper.wp Try.prog o a w K Q else E := by
  have hw : Region.wanted o (yielded ops a.tmps) = true := by simp [Region.wanted, hgd]
  rw [if_pos hw]
  exact wp_append_rows hf h1 s x t ho base e z bytes ht hinfo hzs hsz hbs v xs hs hown y ys hx hy hlen hbase h

/-- A literal of rows, laid in a block of its own. -/
theorem RowsAt.lit (hf : ∀ x, (f x).length = sz) (w : World) (e : TypeId) (l : List α) (hm : l.length ≤ maxLen) :
    RowsAt sz f (w.alloc (.cells (l.flatMap f).toArray e)) (.slice (some ⟨w.heap.size, 0, none⟩) l.length l.length) l := by
  refine ⟨_, _, rfl, Nat.le_refl _, hm, fun h => by simp at h, fun _ => ⟨_, 0, rfl, by simp, fun i x hx j u hu => ?_⟩⟩
  have hj : j < sz := by rw [← hf x]; exact (List.getElem?_eq_some_iff.1 hu).1
  rw [cell_of_row _ _ _ _ e (0, 0) (heap_alloc_new w _)]
  have := flat_get hf l i x hx j hj
  rw [hu] at this
  simpa using this
end

end Go.Proofs.Ytacmigimkdiagaa
