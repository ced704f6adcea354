/- Slices of whole numbers, and appending to a slice of the call's own: the laws that the walks use. -/
import Derived.Test.YtacmigimkdiagaaBase
import Derived.ArgAppend
import Derived.Laws.AppendOwnNone
namespace Go.Proofs.Ytacmigimkdiagaa
open Go.RowKit
set_option linter.unusedVariables false
set_option linter.unusedSimpArgs false

/-- A value is a slice of these numbers. -/
def IntsAt (w : World) (v : Value) (l : List Int) : Prop :=
  ∃ a cap, v = .slice a l.length cap ∧ l.length ≤ cap ∧ cap ≤ maxLen ∧ (a = none → cap = 0) ∧ (l ≠ [] → ∃ b off, a = some ⟨b, off, none⟩ ∧ b < w.heap.size ∧
    ∀ i, i < l.length → w.cell? ⟨b, off + i, none⟩ = some (.int .i64 (l.getD i 0)))

theorem IntsAt.below {w w' : World} {v : Value} {l : List Int} (h : IntsAt w v l) (hb : Below w.heap.size w w') : IntsAt w' v l := by
  obtain ⟨a, cap, hv, hl, hm, hn, hc⟩ := h
  refine ⟨a, cap, hv, hl, hm, hn, fun hne => ?_⟩
  obtain ⟨b, off, ha, hs, hi⟩ := hc hne
  refine ⟨b, off, ha, Nat.lt_of_lt_of_le hs hb.size, fun i hil => ?_⟩
  rw [hb.cell (p := ⟨b, _, none⟩) hs]
  exact hi i hil
theorem IntsAt.alloc {w : World} {v : Value} {l : List Int} (h : IntsAt w v l) (o : Obj) : IntsAt (w.alloc o) v l := h.below ((Below.refl _ _).alloc (Nat.le_refl _) o)
theorem IntsAt.drew {w : World} {v : Value} {l : List Int} (h : IntsAt w v l) : IntsAt w.drew v l := h.below (below_drew w)
theorem IntsAt.nil (w : World) : IntsAt w (.slice none 0 0) [] := ⟨none, 0, rfl, by simp, by simp, fun _ => rfl, fun h => absurd rfl h⟩
/-- What the walk reads of one place. -/
theorem IntsAt.get {w : World} {a : Option Addr} {n cap k : Nat} {l : List Int} (h : IntsAt w (.slice a n cap) l) (hk : k < l.length) :
    ∃ b off, a = some ⟨b, off, none⟩ ∧ b < w.heap.size ∧ w.cell? ⟨b, off + k, none⟩ = some (.int .i64 (l.getD k 0)) := by
  obtain ⟨a', cap', hv, _, _, _, hc⟩ := h
  simp only [Value.slice.injEq] at hv
  obtain ⟨rfl, rfl, rfl⟩ := hv
  obtain ⟨b, off, ha, hs, hi⟩ := hc (by intro h0; simp [h0] at hk)
  exact ⟨b, off, ha, hs, hi k hk⟩

/-- Each number fits its kind. -/
def Wfs (l : List Int) : Prop := ∀ n ∈ l, (Lit.int .i64 n).wf = true
/-- The cells of a slice, of n elements of so many cells. -/
def CellsAt (w : World) (v : Value) (n size : Nat) (cs : List Value) : Prop :=
  ∃ a cap, v = .slice a n cap ∧ n ≤ cap ∧ cap ≤ maxLen ∧ (a = none → cap = 0) ∧ cs.length = n * size ∧ (n ≠ 0 → ∃ b off, a = some ⟨b, off, none⟩ ∧ ∀ j u, cs[j]? = some u → w.cell? ⟨b, off + j, none⟩ = some u)

theorem IntsAt.cells {w : World} {v : Value} {l : List Int} (h : IntsAt w v l) : CellsAt w v l.length 1 (l.map (Value.int .i64)) := by
  obtain ⟨a, cap, hv, hl, hm, hn, hc⟩ := h
  refine ⟨a, cap, hv, hl, hm, hn, by simp, fun hne => ?_⟩
  obtain ⟨b, off, ha, hs, hi⟩ := hc (by intro h0; simp [h0] at hne)
  refine ⟨b, off, ha, fun j u hj => ?_⟩
  rw [List.getElem?_map] at hj
  obtain ⟨x, hx, rfl⟩ := Option.map_eq_some_iff.1 hj
  have hjl := (List.getElem?_eq_some_iff.1 hx).1
  rw [hi j hjl, List.getD_eq_getElem?_getD, hx]
  rfl

/-- append to a slice of the call's own, from whatever slice: one step. -/
theorem wp_append_any {w : World} {o : Oper} {a : Act} {K : Act → World → Prop} {Q : Exit → Act → World → Prop} (s x : Operand) (t : TypeId)
    (ho : o.op = .call { callee := .builtin .append, args := #[s, x], argTypes := #[t, t] })
    (base : Nat) (e : TypeId) (i : TypeInfo) (z : Value) (size bytes : Nat) (ht : Try.prog.underlying t = some (.slice e)) (hi : Try.prog.info? e = some i) (hz : i.zero = some z)
    (hsize : i.size = size) (hby : i.bytes = bytes) (hzs : z.cells.size = size) (hsz : 0 < size)
    (v : Value) (n : Nat) (xs : List Value) (hs : a.eval s = v) (hown : w.ownsRow base e size v n xs)
    (y : Value) (m : Nat) (news : List Value) (hx : a.eval x = y) (hy : CellsAt w y m size news) (h1 : ∀ u ∈ news, u.oneCell' = true)
    (h63 : n + m ≤ maxLen) (hbytes : (n + m) * bytes ≤ 140737488355328) (hbase : base ≤ w.heap.size)
    (h : ∀ v' w', w'.ownsRow base e size v' (n + m) (xs ++ news) → w.grownBy w' v.ownBlock → K (a.put o.dst v') w') : o.wp Try.prog a w K Q := by
  obtain ⟨ad, cap, rfl, hmc, hcm, hnone, hlen, hcell⟩ := hy
  cases ad with
  | none =>
    have hc0 := hnone rfl
    subst hc0
    have hm0 : m = 0 := by omega
    subst hm0
    have hnil : news = [] := by simpa using hlen
    subst hnil
    have hrun := run_append_owned_none (P := Try.prog) (w := w) base t o.type e i size ht hi v n xs hown
    unfold Oper.wp
    simp [execOp, ho, resolve, invoke, builtin, hs, hx, hrun, Result.andThen]
    exact h v w (by simpa using hown) ⟨rfl, rfl, rfl, Nat.le_refl _, fun _ _ _ => rfl⟩
  | some ad =>
    refine wp_append_own w s x t ho base e i z size bytes ht hi hz hsize hby hzs hsz v n xs hs hown ad m cap news hx hlen ?_ h1 h63 hbytes hbase fun v' w' h2 h3 _ => h v' w' h2 h3
    intro j u hj
    by_cases hm0 : m = 0
    · subst hm0
      simp at hlen
      subst hlen
      simp at hj
    · obtain ⟨b, off, hadd, hc⟩ := hcell hm0
      obtain rfl := Option.some.inj hadd
      have hjn : (⟨b, off, none⟩ : Addr).add j = ⟨b, off + j, none⟩ := by
        unfold Addr.add
        split
        · next h0 => subst h0; rfl
        · rfl
      rw [hjn]
      exact hc j u hj

theorem infoInt : (Try.prog.info? 3).map (fun i => (i.zero, i.size, i.bytes)) = some (some (.int .i64 0), 1, 8) := by kernel_rfl

/-- A slice of the call's own that holds these numbers. -/
abbrev OwnInts (w : World) (base : Nat) (v : Value) (l : List Int) : Prop := w.ownsRow base 3 1 v l.length (l.map (Value.int .i64))

theorem OwnInts.nil (w : World) (base : Nat) : OwnInts w base (.slice none 0 0) [] := World.ownsRow_nil _ _ _ _
theorem OwnInts.ints {w : World} {base : Nat} {v : Value} {l : List Int} (h : OwnInts w base v l) : IntsAt w v l := by
  rcases h.2 with ⟨rfl, hn⟩ | ⟨g, cap, cur, rfl, hg, hh, hnc, hcm, hcs, htake⟩
  · have : l = [] := by simpa using hn
    subst this
    exact IntsAt.nil w
  · refine ⟨_, cap, rfl, hnc, hcm, fun h => by simp at h, fun _ => ⟨g, 0, rfl, ?_, fun i hi => ?_⟩⟩
    · exact (Array.getElem?_eq_some_iff.1 hh).1
    · have := World.ownsRow.cellAt h i (by simpa using hi)
      rw [Nat.zero_add, this]
      simp [List.getElem?_map, hi]

theorem wp_append_ints {w : World} {o : Oper} {a : Act} {K : Act → World → Prop} {Q : Exit → Act → World → Prop} (s x : Operand)
    (ho : o.op = .call { callee := .builtin .append, args := #[s, x], argTypes := #[22, 22] })
    (base : Nat) (v : Value) (xs : List Int) (hs : a.eval s = v) (hown : OwnInts w base v xs)
    (y : Value) (ys : List Int) (hx : a.eval x = y) (hy : IntsAt w y ys) (hlen : xs.length + ys.length ≤ 1099511627776) (hbase : base ≤ w.heap.size)
    (h : ∀ v' w', OwnInts w' base v' (xs ++ ys) → w.grownBy w' v.ownBlock → Below base w w' → K (a.put o.dst v') w') : o.wp Try.prog a w K Q := by
  obtain ⟨i0, hi, hz0, hz1, hz2⟩ := info_parts infoInt
  refine wp_append_any s x _ ho base _ i0 (.int .i64 0) 1 8 Try.underlying22 hi hz0 hz1 hz2 rfl (by decide) v _ _ hs hown y _ _ hx hy.cells ?_ ?_ ?_ hbase ?_
  · intro u hu
    obtain ⟨n, _, rfl⟩ := List.mem_map.1 hu
    rfl
  · unfold maxLen; omega
  · omega
  · intro v' w' h2 h3
    refine h v' w' ?_ h3 ((Below.refl _ _).grown h3 hbase fun k hk => (World.ownsRow.lt hown k hk).1)
    unfold OwnInts
    rw [List.length_append, List.map_append]
    exact h2

theorem wpList_append_ints {w : World} {ops : Array Oper} {rest : List Oper} {o : Oper} {a : Act} {Q : Exit → Act → World → Prop} (hgd : o.guard = none) (s x : Operand)
    (ho : o.op = .call { callee := .builtin .append, args := #[s, x], argTypes := #[22, 22] })
    (base : Nat) (v : Value) (xs : List Int) (hs : a.eval s = v) (hown : OwnInts w base v xs)
    (y : Value) (ys : List Int) (hx : a.eval x = y) (hy : IntsAt w y ys) (hlen : xs.length + ys.length ≤ 1099511627776) (hbase : base ≤ w.heap.size)
    (h : ∀ v' w', OwnInts w' base v' (xs ++ ys) → w.grownBy w' v.ownBlock → Below base w w' → wpList Try.prog ops Q rest (a.put o.dst v') w') : wpList Try.prog ops Q (o :: rest) a w :=
  wpList_plain hgd fun _ hK => wp_append_ints s x ho base v xs hs hown y ys hx hy hlen hbase fun v' w' h2 h3 h4 => hK _ _ (h v' w' h2 h3 h4)

/-- The same as a step of a region that draws its order. -/
theorem step_append_ints {w : World} {ops : Array Oper} {o : Oper} {a : Act} {K : Act → World → Prop} {Q : Exit → Act → World → Prop} {E : Prop} (hgd : o.guard = none) (s x : Operand)
    (ho : o.op = .call { callee := .builtin .append, args := #[s, x], argTypes := #[22, 22] })
    (base : Nat) (v : Value) (xs : List Int) (hs : a.eval s = v) (hown : OwnInts w base v xs)
    (y : Value) (ys : List Int) (hx : a.eval x = y) (hy : IntsAt w y ys) (hlen : xs.length + ys.length ≤ 1099511627776) (hbase : base ≤ w.heap.size)
    (h : ∀ v' w', OwnInts w' base v' (xs ++ ys) → w.grownBy w' v.ownBlock → Below base w w' → K (a.put o.dst v') w') :
    if Region.wanted o (yielded ops a.tmps) = true then Oper.wp Try.prog o a w K Q else E := by
  have hw : Region.wanted o (yielded ops a.tmps) = true := by simp [Region.wanted, hgd]
  rw [if_pos hw]
  exact wp_append_ints s x ho base v xs hs hown y ys hx hy hlen hbase h

/-- An own slice's row lies from base on: what is below is as it was. -/
theorem OwnInts.grown {w w' : World} {base : Nat} {v : Value} {l : List Int} (h : OwnInts w base v l) (hg : w.grownBy w' v.ownBlock) (hbase : base ≤ w.heap.size) : Below base w w' :=
  (Below.refl _ _).grown hg hbase fun k hk => (World.ownsRow.lt h k hk).1
theorem OwnInts.alloc {w : World} {base : Nat} {v : Value} {l : List Int} (h : OwnInts w base v l) (o : Obj) : OwnInts (w.alloc o) base v l := World.ownsRow.alloc h o

theorem OwnInts.drew {w : World} {base : Nat} {v : Value} {l : List Int} (h : OwnInts w base v l) : OwnInts w.drew base v l := h
theorem own_lit (w : World) (base : Nat) (l : List Int) (hb : base ≤ w.heap.size) (hm : l.length ≤ maxLen) :
    OwnInts (w.alloc (.cells (l.map (Value.int .i64)).toArray 3)) base (.slice (some ⟨w.heap.size, 0, none⟩) l.length l.length) l := by
  have := World.ownsRow_lit (base := base) (e := 3) (size := 1) w (l.map (Value.int .i64)).toArray l.length hb hm (by simp)
  simpa using this
/-- An empty slice that has just been made. -/
theorem own_empty (w : World) (base : Nat) (hb : base ≤ w.heap.size) : OwnInts (w.alloc (.cells #[] 3)) base (.slice (some ⟨w.heap.size, 0, none⟩) 0 0) [] := own_lit w base [] hb (by simp)
theorem own_empty2 (w : World) (base : Nat) (o : Obj) (hb : base ≤ w.heap.size) : OwnInts ((w.alloc o).alloc (.cells #[] 3)) base (.slice (some ⟨w.heap.size + 1, 0, none⟩) 0 0) [] := by
  have := own_empty (w.alloc o) base (by simp; omega)
  simpa using this
/-- A slice of one cell. -/
theorem IntsAt.one {w : World} {g : Nat} {n : Int} (hc : w.cell? ⟨g, 0, none⟩ = some (.int .i64 n)) : IntsAt w (.slice (some ⟨g, 0, none⟩) 1 1) [n] :=
  ⟨_, 1, rfl, Nat.le_refl _, by unfold maxLen; omega, fun h => by simp at h, fun _ => ⟨g, 0, rfl, World.block_lt_of_cell? _ _ hc, fun i hi => by
    have : i = 0 := by simpa using hi
    subst this
    simpa using hc⟩⟩
theorem IntsAt.lit1 (w : World) (n : Int) : IntsAt (w.alloc (.cells #[.int .i64 n] 3)) (.slice (some ⟨w.heap.size, 0, none⟩) 1 1) [n] := (own_lit w 0 [n] (Nat.zero_le _) (by unfold maxLen; simp)).ints
/-- A front of a slice, and its rest. -/
theorem IntsAt.front {w : World} {a : Option Addr} {n cap : Nat} {l : List Int} (h : IntsAt w (.slice a n cap) l) {k : Nat} (hk : k ≤ l.length) : IntsAt w (.slice a k cap) (l.take k) := by
  obtain ⟨a', cap', hv, h1, h2, h3, hc⟩ := h
  simp only [Value.slice.injEq] at hv
  obtain ⟨rfl, rfl, rfl⟩ := hv
  have hlen : (l.take k).length = k := by rw [List.length_take]; omega
  refine ⟨a, cap, by rw [hlen], by rw [hlen]; omega, h2, h3, fun hne => ?_⟩
  obtain ⟨b, off, ha, hs, hi⟩ := hc (by intro h0; simp [h0] at hne)
  refine ⟨b, off, ha, hs, fun i hil => ?_⟩
  rw [hlen] at hil
  rw [hi i (by omega)]
  simp [List.getElem?_take, hil]
theorem IntsAt.rest {w : World} {a : Option Addr} {n cap : Nat} {l : List Int} (h : IntsAt w (.slice a n cap) l) {k : Nat} (hk : k ≤ l.length) : IntsAt w (sliced a k n cap 1) (l.drop k) := by
  obtain ⟨a', cap', hv, h1, h2, h3, hc⟩ := h
  simp only [Value.slice.injEq] at hv
  obtain ⟨rfl, rfl, rfl⟩ := hv
  have hlen : (l.drop k).length = l.length - k := List.length_drop
  unfold sliced
  refine ⟨if cap = k then a else a.map (·.add (k * 1)), cap - k, by rw [hlen], by rw [hlen]; omega, by omega, fun h => ?_, fun hne => ?_⟩
  · by_cases hk2 : cap = k
    · omega
    · rw [if_neg hk2] at h
      have := h3 (by simpa using h)
      omega
  · obtain ⟨b, off, ha, hs, hi⟩ := hc (by intro h0; simp [h0] at hne)
    subst ha
    have hkl : k < l.length := by
      rcases Nat.lt_or_ge k l.length with h | h
      · exact h
      · exact absurd (List.drop_eq_nil_of_le h) hne
    rw [if_neg (by omega)]
    refine ⟨b, off + k, ?_, hs, fun i hil => ?_⟩
    · rw [Nat.mul_one]
      unfold Addr.add
      by_cases h0 : k = 0
      · subst h0; rfl
      · simp [h0]
    · rw [hlen] at hil
      rw [Nat.add_assoc, hi (k + i) (by omega)]
      simp
/-- The same, spelt as the walk leaves it. -/
theorem IntsAt.rest_at {w : World} {b off : Nat} {n cap : Nat} {l : List Int} (h : IntsAt w (.slice (some ⟨b, off, none⟩) n cap) l) {k : Nat} (hk : k ≤ l.length) :
    IntsAt w (.slice (if cap = k then some ⟨b, off, none⟩ else some ⟨b, off + k, none⟩) (n - k) (cap - k)) (l.drop k) := by
  have h1 := h.rest hk
  unfold sliced at h1
  have e : (Option.map (fun x : Addr => x.add (k * 1)) (some ⟨b, off, none⟩)) = some ⟨b, off + k, none⟩ := by
    simp only [Option.map_some, Nat.mul_one, Addr.add]
    by_cases h0 : k = 0
    · subst h0; rfl
    · simp [h0]
  rw [e] at h1
  exact h1
theorem IntsAt.rest_any {w : World} {a : Option Addr} {n cap : Nat} {l : List Int} (h : IntsAt w (.slice a n cap) l) {k : Nat} (hk : k ≤ l.length) :
    IntsAt w (.slice (if cap = k then a else Option.map (fun x => x.add k) a) (n - k) (cap - k)) (l.drop k) := by
  have h1 := h.rest hk
  unfold sliced at h1
  rw [Nat.mul_one] at h1
  exact h1
theorem own_ne {g h : Nat} (hne : g ≠ h) (n c : Nat) : (some (⟨g, 0, none⟩ : Addr).block : Option Nat) ≠ (Value.slice (some ⟨h, 0, none⟩) n c).ownBlock := fun e => hne (Option.some.inj e)
theorem lit_cell (w : World) (n : Int) (t : TypeId) : (w.alloc (.cells #[.int .i64 n] t)).drew.cell? ⟨w.heap.size, 0, none⟩ = some (.int .i64 n) := by go_simp
theorem lit_cell2 (w : World) (n : Int) (t : TypeId) (o : Obj) : ((w.alloc o).alloc (.cells #[.int .i64 n] t)).drew.cell? ⟨w.heap.size + 1, 0, none⟩ = some (.int .i64 n) := by go_simp
theorem lit_cell' (w : World) (n : Int) (t : TypeId) (o : Obj) : ((w.alloc (.cells #[.int .i64 n] t)).alloc o).drew.cell? ⟨w.heap.size, 0, none⟩ = some (.int .i64 n) := by go_simp
theorem Keeps.grow {W w' w'' : World} {v : Value} {l : List Int} (h : Keeps W w') (ho : OwnInts w' W.heap.size v l) (hg : w'.grownBy w'' v.ownBlock) : Keeps W w'' := .of (h.1.trans (ho.grown hg h.1.size))

theorem IntsAt.lit (w : World) (l : List Int) (hm : l.length ≤ maxLen := by simp [maxLen]) : IntsAt (w.alloc (.cells (l.map (Value.int .i64)).toArray 3)) (.slice (some ⟨w.heap.size, 0, none⟩) l.length l.length) l := (own_lit w 0 l (Nat.zero_le _) hm).ints
theorem IntsAt.lit2 (w : World) (o : Obj) (l : List Int) (hm : l.length ≤ maxLen := by simp [maxLen]) : IntsAt ((w.alloc o).alloc (.cells (l.map (Value.int .i64)).toArray 3)) (.slice (some ⟨w.heap.size + 1, 0, none⟩) l.length l.length) l := by
  have := (own_lit (w.alloc o) 0 l (Nat.zero_le _) hm).ints
  simpa using this
theorem IntsAt.single {w : World} {v : Value} {x : Int} (h : IntsAt w v [x]) : ∃ b o c, v = .slice (some ⟨b, o, none⟩) 1 c ∧ b < w.heap.size ∧ w.cell? ⟨b, o, none⟩ = some (.int .i64 x) := by
  obtain ⟨a, c, hv, h1, h2, h3, hc⟩ := h
  obtain ⟨b, o, ha, hs, hi⟩ := hc (by simp)
  exact ⟨b, o, c, by rw [hv, ha]; rfl, hs, by simpa using hi 0 (by simp)⟩
theorem IntsAt.two {w : World} {v : Value} {x y : Int} (h : IntsAt w v [x, y]) : ∃ b o c, v = .slice (some ⟨b, o, none⟩) 2 c ∧ b < w.heap.size ∧ w.cell? ⟨b, o, none⟩ = some (.int .i64 x) ∧ w.cell? ⟨b, o + 1, none⟩ = some (.int .i64 y) := by
  obtain ⟨a, c, hv, h1, h2, h3, hc⟩ := h
  obtain ⟨b, o, ha, hs, hi⟩ := hc (by simp)
  exact ⟨b, o, c, by rw [hv, ha]; rfl, hs, by simpa using hi 0 (by simp), by simpa using hi 1 (by simp)⟩

end Go.Proofs.Ytacmigimkdiagaa
