/-
  Slices that a function makes itself, element by element: what an append of one element leaves, in the words of this work.
-/
import Derived.Test.YthogfmaclbmgoaaRep
namespace Go
open Go.RowKit

/-- What the table of types says of a slice type t of elements e, of size cells and bytes bytes, whose zero value is z. -/
structure ElemOf (P : Program) (t e : TypeId) (z : Value) (size bytes : Nat) : Prop where
  und : P.underlying t = some (.slice e)
  inf : (P.info? e).map (fun i => (i.zero, i.size, i.bytes)) = some (some z, size, bytes)
  zs : z.cells.size = size
  pos : 0 < size
  small : bytes ≤ 65536

theorem World.heap_set_other (w : World) (p : Addr) (u : Value) {k : Nat} (h : k ≠ p.block) : (w.setCell p u).heap[k]? = w.heap[k]? := by
  unfold World.setCell
  simp [Array.getElem?_modify, Ne.symm h]
theorem World.ownsRow.set {W : World} {base e size n : Nat} {v : Value} {xs : List Value} (h : W.ownsRow base e size v n xs) {p : Addr} (hp : p.block < base) (u : Value) : (W.setCell p u).ownsRow base e size v n xs := by
  refine h.kept (row := some p.block) ⟨rfl, rfl, rfl, by simp, fun k _ hne => World.heap_set_other W p u (fun e => hne (by rw [e]))⟩ ?_
  cases hv : v.ownBlock with
  | none => exact .inl rfl
  | some k => exact .inr (fun e => by have := (h.lt k hv).1; cases e; omega)

section
variable {P : Program} {W w' : World} {base e size n : Nat} {v : Value} {xs : List Value}
theorem ownsRow_exts {A : World} (h : A.ownsRow base e size v n xs) (hE : A.Exts W) : W.ownsRow base e size v n xs := by
  have hb := hE.below
  have hg : A.grownBy W none := ⟨hb.os, hb.tape, hb.output, hb.size, fun k hk _ => hb.block k hk⟩
  exact h.kept hg (by cases v.ownBlock <;> simp)

theorem exts_grown {A : World} (hE : A.Exts W) (hB : A.heap.size ≤ base) (hown : W.ownsRow base e size v n xs) (hg : W.grownBy w' v.ownBlock) : A.Exts w' :=
  .of (hE.below.grown hg hE.below.size (fun k hk => Nat.le_trans hB (hown.lt k hk).1))

/-- What is left behind an append: the old facts of A hold; another block than the slice's own lies as it lay. -/
structure Appended (W w' : World) (v : Value) (base : Nat) : Prop where
  exts : ∀ A : World, A.Exts W → A.heap.size ≤ base → A.Exts w'
  size : W.heap.size ≤ w'.heap.size
  block : ∀ k, k < W.heap.size → some k ≠ v.ownBlock → w'.heap[k]? = W.heap[k]?

/-- 'x = append(x, y)', y a struct (or one cell) just laid in a block of its own. -/
theorem wpList_append1 {ops : Array Oper} {rest : List Oper} {o : Oper} {a : Act} {Q : Exit → Act → World → Prop} (s x : Operand) {t bytes : Nat} {z : Value} (E : ElemOf P t e z size bytes) (hgd : o.guard = none)
    (ho : o.op = .call { callee := .builtin .append, args := #[s, x], argTypes := #[t, t] })
    (hs : a.eval s = v) (hown : W.ownsRow base e size v n xs) (news : List Value) (nb : Nat) (hnb : nb = W.heap.size) (hx : a.eval x = .slice (some ⟨nb, 0, none⟩) 1 1) (hl : news.length = size) (h1 : ∀ u ∈ news, u.oneCell' = true)
    (hn : n ≤ 1000000000) (hbase : base ≤ W.heap.size)
    (h : ∀ v' w', w'.ownsRow base e size v' (n + 1) (xs ++ news) → Appended W w' v base → wpList P ops Q rest (a.put o.dst v') w') : wpList P ops Q (o :: rest) a (W.alloc (.cells news.toArray e)) := by
  subst hnb
  obtain ⟨i0, hi, hz0, hz1, hz2⟩ := info_parts E.inf
  refine wpList_append_own _ hgd s x t ho base e i0 z size bytes E.und hi hz0 hz1 hz2 E.zs E.pos v n xs hs (hown.alloc _) ⟨W.heap.size, 0, none⟩ 1 1 news hx (by simp [hl]) ?_ h1 (by unfold maxLen; omega) ?_ (by simp; omega) ?_
  · intro j u hj
    rw [show (⟨W.heap.size, 0, none⟩ : Addr).add j = ⟨W.heap.size, j, none⟩ from by unfold Addr.add; split <;> simp_all]
    rw [World.cell?_alloc_new]
    simpa using hj
  · have h := E.small
    calc (n + 1) * bytes ≤ (n + 1) * 65536 := Nat.mul_le_mul_left _ h
      _ ≤ 140737488355328 := by omega
  · intro v' w' ho' hg' _
    refine h v' w' ho' ⟨fun A hA hB => ?_, by have := hg'.size; simp at this; omega, fun k hk hne => ?_⟩
    · exact exts_grown (hA.alloc _) hB (hown.alloc _) hg'
    · rw [hg'.block k (by simp; omega) hne]; exact Below.heap_alloc _ _ _ hk

theorem run_append_none_cap (t ty : TypeId) {bytes cap : Nat} {z : Value} (E : ElemOf P t e z size bytes) (hown : W.ownsRow base e size v n xs) :
    (Builtin.append_ #[t, t] ty #[v, .slice none 0 cap]).run P W = .ok v W := by
  obtain ⟨i0, hi, hz0, hz1, hz2⟩ := info_parts E.inf
  rcases hown.2 with ⟨rfl, rfl⟩ | ⟨g, cap2, cur, rfl, _, _, hnc, _⟩
  · simp [Builtin.append_, run_underlying E.und, sizeOf, typeInfo, hi, Builtin.lenOf, Builtin.firstCells]
  · simp [Builtin.append_, run_underlying E.und, sizeOf, typeInfo, hi, Builtin.lenOf, Builtin.firstCells, hnc, storeCells]

theorem flat_get {α : Type} {enc : α → List Value} : ∀ (l : List α), (∀ y ∈ l, (enc y).length = size) → ∀ q u, (l.flatMap enc)[q]? = some u → ∃ i x j, l[i]? = some x ∧ (enc x)[j]? = some u ∧ q = i * size + j := by
  intro l
  induction l with
  | nil => intro _ q u h; simp at h
  | cons y l ih =>
    intro hl q u hq
    have hy := hl y (List.mem_cons_self ..)
    rw [List.flatMap_cons] at hq
    by_cases hlt : q < size
    · rw [List.getElem?_append_left (by omega)] at hq
      exact ⟨0, y, q, rfl, hq, by omega⟩
    · rw [List.getElem?_append_right (by omega)] at hq
      obtain ⟨i, x, j, h1, h2, h3⟩ := ih (fun z hz => hl z (List.mem_cons_of_mem _ hz)) _ _ hq
      exact ⟨i + 1, x, j, by simpa using h1, h2, by rw [Nat.succ_mul]; omega⟩
theorem flat_len {α : Type} {enc : α → List Value} (l : List α) (hl : ∀ y ∈ l, (enc y).length = size) : (l.flatMap enc).length = l.length * size := by
  induction l with
  | nil => simp
  | cons y l ih => rw [List.flatMap_cons, List.length_append, hl y (List.mem_cons_self ..), ih (fun z hz => hl z (List.mem_cons_of_mem _ hz)), List.length_cons, Nat.succ_mul]; omega

/-- 'append(s, x...)', s a slice of the function's own, x a row. -/
theorem wpList_append_row {α : Type} {enc : α → List Value} {ys : List α} {xv : Value} {ops : Array Oper} {rest : List Oper} {o : Oper} {a : Act} {Q : Exit → Act → World → Prop} (s x : Operand) {t bytes : Nat} {z : Value} (E : ElemOf P t e z size bytes) (hw : Region.wanted o (yielded ops a.tmps) = true)
    (ho : o.op = .call { callee := .builtin .append, args := #[s, x], argTypes := #[t, t] })
    (hs : a.eval s = v) (hown : W.ownsRow base e size v n xs) (hx : a.eval x = xv) (hrow : IsRow enc size W xv ys) (henc : ∀ y ∈ ys, (enc y).length = size) (h1 : ∀ y ∈ ys, ∀ u ∈ enc y, u.oneCell' = true)
    (hn : n + ys.length ≤ 1000000000) (hbase : base ≤ W.heap.size)
    (h : ∀ v' w', w'.ownsRow base e size v' (n + ys.length) (xs ++ ys.flatMap enc) → Appended W w' v base → wpList P ops Q rest (a.put o.dst v') w') : wpList P ops Q (o :: rest) a W := by
  obtain ⟨i0, hi, hz0, hz1, hz2⟩ := info_parts E.inf
  have fin : ∀ (ad : Addr) (m c : Nat), xv = .slice (some ad) m c → m = ys.length → (∀ j u, (ys.flatMap enc)[j]? = some u → W.cell? (ad.add j) = some u) → wpList P ops Q (o :: rest) a W := by
    intro ad m c hxv hm hcells
    subst hm
    refine BigFrame.wpList_want hw fun K hK => wp_append_own W s x t ho base e i0 z size bytes E.und hi hz0 hz1 hz2 E.zs E.pos v n xs hs hown ad ys.length c (ys.flatMap enc) (hx.trans hxv) (flat_len ys henc) hcells ?_ (by unfold maxLen; omega) ?_ hbase ?_
    · intro u hu
      obtain ⟨y, hy, hu⟩ := List.mem_flatMap.1 hu
      exact h1 y hy u hu
    · have h := E.small
      calc (n + ys.length) * bytes ≤ (n + ys.length) * 65536 := Nat.mul_le_mul_left _ h
        _ ≤ 140737488355328 := by omega
    · intro v' w' ho' hg' _
      exact hK _ _ (h v' w' ho' ⟨fun A hA hB => exts_grown hA hB hown hg', hg'.size, fun k hk hne => hg'.block k hk hne⟩)
  obtain ⟨p, b, oo, cap, hv, hm, hp, hc⟩ := hrow.ex
  by_cases h0 : 0 < ys.length
  · obtain ⟨rfl, _⟩ := hp h0
    refine fin _ _ _ hv rfl fun q u hq => ?_
    obtain ⟨i, y, j, e1, e2, rfl⟩ := flat_get ys henc q u hq
    rw [show (⟨b, oo, none⟩ : Addr).add (i * size + j) = ⟨b, oo + i * size + j, none⟩ from by unfold Addr.add; split <;> simp_all [Nat.add_assoc]]
    exact hc i y e1 j u e2
  · have : ys = [] := List.eq_nil_of_length_eq_zero (by omega)
    subst this
    cases p with
    | some ad => exact fin ad 0 cap hv rfl (fun j u hj => by simp at hj)
    | none =>
      refine BigFrame.wpList_want hw fun K hK => ?_
      have hrun := run_append_none_cap (W := W) t o.type (cap := cap) E hown
      unfold Oper.wp
      have hx' : a.eval x = .slice none 0 cap := hx.trans hv
      simp [execOp, ho, resolve, invoke, builtin, hs, hx', hrun, Result.andThen]
      exact hK _ _ (h v W (by simpa using hown) ⟨fun A hA _ => hA, Nat.le_refl _, fun k hk _ => rfl⟩)

/-- A slice that is owned reads as a row. -/
theorem IsRow.of_owns {α : Type} {enc : α → List Value} {ys : List α} (h : W.ownsRow base e size v ys.length (ys.flatMap enc)) (hk : ∀ y ∈ ys, (enc y).length = size) : IsRow enc size W v ys := by
  rcases h.2 with ⟨rfl, h0⟩ | ⟨g, cap, cur, rfl, hb, hg, hnc, hcm, hcs, htake⟩
  · have : ys = [] := List.eq_nil_of_length_eq_zero h0
    subst this
    exact IsRow.nil _
  · have hlt : g < W.heap.size := (Array.getElem?_eq_some_iff.1 hg).1
    refine ⟨some ⟨g, 0, none⟩, g, 0, cap, rfl, by unfold maxLen at hcm; omega, fun _ => ⟨rfl, ⟨hlt⟩⟩, fun i x hx j u hu => ?_⟩
    have key : ∀ (l : List α), (∀ y ∈ l, (enc y).length = size) → ∀ i x, l[i]? = some x → ∀ j u, (enc x)[j]? = some u → (l.flatMap enc)[i * size + j]? = some u := by
      intro l
      induction l with
      | nil => intro _ i x hx; simp at hx
      | cons y l ih =>
        intro hl i x hx j u hu
        have hy := hl y (List.mem_cons_self ..)
        rw [List.flatMap_cons]
        cases i with
        | zero =>
          simp at hx; subst hx
          rw [List.getElem?_append_left (by rw [Nat.zero_mul, Nat.zero_add]; exact (List.getElem?_eq_some_iff.1 hu).1)]
          simpa using hu
        | succ i =>
          rw [List.getElem?_append_right (by rw [hy, Nat.succ_mul]; omega)]
          rw [show (i + 1) * size + j - (enc y).length = i * size + j from by rw [hy, Nat.succ_mul]; omega]
          exact ih (fun z hz => hl z (List.mem_cons_of_mem _ hz)) i x (by simpa using hx) j u hu
    have hj := key ys hk i x hx j u hu
    rw [← htake] at hj
    rw [Nat.zero_add]
    rw [List.getElem?_take] at hj
    split at hj
    · simp [World.cell?, hg]
      simpa using hj
    · cases hj
/-- 'append([]T{x, ..}, y...)': a slice written out just now, and a row. -/
theorem wpList_append_lit {α : Type} {enc : α → List Value} {zs ys : List α} {xv : Value} {ops : Array Oper} {rest : List Oper} {o : Oper} {a : Act} {Q : Exit → Act → World → Prop} (s x : Operand) {t bytes : Nat} {z : Value} {cs : Array Value} (E : ElemOf P t e z size bytes) (hw : Region.wanted o (yielded ops a.tmps) = true)
    (ho : o.op = .call { callee := .builtin .append, args := #[s, x], argTypes := #[t, t] })
    (nb : Nat) (hnb : nb = W.heap.size) (hs : a.eval s = .slice (some ⟨nb, 0, none⟩) zs.length zs.length) (hcs : cs.toList = zs.flatMap enc) (hx : a.eval x = xv) (hrow : IsRow enc size W xv ys) (henc : ∀ y, (enc y).length = size) (h1 : ∀ y, ∀ u ∈ enc y, u.oneCell' = true)
    (hn : zs.length + ys.length ≤ 1000000000)
    (h : ∀ v' (X : Ext W), IsRow enc size (W.ext X) v' (zs ++ ys) → wpList P ops Q rest (a.put o.dst v') (W.ext X)) : wpList P ops Q (o :: rest) a (W.alloc (.cells cs e)) := by
  subst hnb
  have hown := World.ownsRow_lit (e := e) (size := size) W cs zs.length (Nat.le_refl _) (by unfold maxLen; omega) (by rw [← Array.length_toList, hcs, flat_len zs (fun y _ => henc y)])
  rw [hcs] at hown
  refine wpList_append_row s x E hw ho hs hown hx (hrow.alloc _) (fun y _ => henc y) (fun y _ => h1 y) hn (by simp) ?_
  intro v' w' ho' ha
  obtain ⟨X, rfl⟩ := ha.exts W ((World.Exts.refl W).alloc _) (Nat.le_refl _)
  exact h v' X (IsRow.of_owns (by rw [List.flatMap_append, List.length_append]; exact ho') (fun y _ => henc y))
end
#print axioms wpList_append1
#print axioms IsRow.of_owns
end Go
