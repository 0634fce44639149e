/-
  A function's own boxes and rows, all beside each other; what an append in a region that draws its order leaves of them. General laws.
-/
import Derived.Test.YtfjkiemjmnnbkaaGreatDoorInv
import Derived.Test.YtfjkiemjmnnbkaaGreatDoorAg
namespace Go.Proofs.YtfjkiemjmnnbkaaGreatDoor
open Go.RowKit Kr
set_option linter.unusedSimpArgs false

/-- A row of the function's own: its elements' type and size, the slice, its length and cells. -/
structure RowD where
  t : TypeId
  size : Nat
  v : Value
  n : Nat
  cs : List Value
abbrev RowD.at (r : RowD) (W : World) (B : Nat) : Prop := W.ownsRow B r.t r.size r.v r.n r.cs
abbrev Apart (a b : Value) : Prop := ∀ k, a.ownBlock = some k → b.ownBlock ≠ some k
theorem Apart.symm {a b : Value} (h : Apart a b) : Apart b a := fun k hk e => h k e hk
theorem Apart.none (a : Value) : Apart (.slice none 0 0) a := fun k hk => by simp [Value.ownBlock] at hk
/-- A box: its block, its type and cells. -/
structure BoxD where
  p : Nat
  t : TypeId
  cs : List Value
abbrev BoxD.at (b : BoxD) (W : World) : Prop := LaysAs W b.p (.cells b.cs.toArray b.t (0, 0))
/-- Boxes and rows beside each other, in a world that extends A; rows lie from B on, boxes below. -/
structure FrAt (A W : World) (B : Nat) (bx : List BoxD) (rs : List RowD) : Prop where
  ext : A.Exts W
  hA : A.heap.size ≤ B
  bo : ∀ b ∈ bx, b.at W ∧ A.heap.size ≤ b.p ∧ b.p < B
  bd : bx.Pairwise fun a b => a.p ≠ b.p
  ro : ∀ r ∈ rs, r.at W B
  rd : rs.Pairwise fun a b => Apart a.v b.v
  sz : B ≤ W.heap.size
section
variable {A W W' : World} {B : Nat} {bx : List BoxD} {rs : List RowD}
theorem FrAt.exts (h : FrAt A W B bx rs) (hE : W.Exts W') : FrAt A W' B bx rs :=
  ⟨h.ext.trans hE, h.hA, fun b hb => ⟨(h.bo b hb).1.exts hE, (h.bo b hb).2⟩, h.bd, fun r hr => ownsRow_exts (h.ro r hr) hE, h.rd, Nat.le_trans h.sz hE.size⟩
theorem FrAt.box (h : FrAt A W B bx rs) (j : Nat) {b : BoxD} (hb : bx[j]? = some b) : b.at W := (h.bo b (List.mem_of_getElem? hb)).1
theorem FrAt.row (h : FrAt A W B bx rs) (j : Nat) {r : RowD} (hr : rs[j]? = some r) : r.at W B := h.ro r (List.mem_of_getElem? hr)
/-- A store into a box. -/
theorem FrAt.store (h : FrAt A W B bx rs) (j i : Nat) {b : BoxD} (hb : bx[j]? = some b) (u : Value) : FrAt A (W.setCell ⟨b.p, i, none⟩ u) B (bx.set j { b with cs := b.cs.set i u }) rs := by
  have h0 := h.bo b (List.mem_of_getElem? hb)
  have hj := lt_of_some hb
  refine ⟨World.Exts.setCell h.ext h0.2.1 _, h.hA, fun c hc => ?_, ?_, fun r hr => (h.ro r hr).set h0.2.2 _, h.rd, by simpa using h.sz⟩
  · obtain ⟨m, hm, rfl⟩ := List.mem_iff_getElem.1 hc
    rw [List.length_set] at hm
    by_cases hmj : j = m
    · subst hmj
      rw [List.getElem_set_self]
      exact ⟨LaysAs.set h0.1 u, h0.2⟩
    · rw [List.getElem_set_ne hmj]
      have h1 := h.bo bx[m] (List.getElem_mem hm)
      refine ⟨laysAs_other h1.1 (fun e => ?_) u, h1.2⟩
      have hbj : bx[j] = b := by rw [List.getElem?_eq_getElem hj] at hb; exact Option.some.inj hb
      have hp := List.pairwise_iff_getElem.1 h.bd
      rcases Nat.lt_or_ge m j with c | c
      · have := hp m j hm hj c; rw [hbj] at this; exact this e
      · have := hp j m hj hm (by omega); rw [hbj] at this; exact this e.symm
  · rw [List.pairwise_iff_getElem]
    intro x y hx hy hxy
    rw [List.length_set] at hx hy
    have hp := List.pairwise_iff_getElem.1 h.bd x y hx hy hxy
    have hbj : bx[j] = b := by rw [List.getElem?_eq_getElem hj] at hb; exact Option.some.inj hb
    have e : ∀ k (hk : k < bx.length) (hk2 : k < (bx.set j { b with cs := b.cs.set i u }).length), (bx.set j { b with cs := b.cs.set i u })[k].p = bx[k].p := fun k hk hk2 => by
      by_cases hjk : j = k
      · subst hjk; rw [List.getElem_set_self, hbj]
      · rw [List.getElem_set_ne hjk]
    rw [e x hx, e y hy]
    exact hp
/-- What stays while row v grows: the boxes, the other rows. -/
structure FrG (A : World) (B : Nat) (bx : List BoxD) (os : List RowD) (v : Value) (W : World) : Prop where
  fr : FrAt A W B bx os
  ap : ∀ r ∈ os, Apart r.v v
  sx : ∀ b, v.ownBlock = some b → b < W.heap.size
theorem FrG.exts {os : List RowD} {v : Value} (h : FrG A B bx os v W) (hE : W.Exts W') : FrG A B bx os v W' := ⟨h.fr.exts hE, h.ap, fun b hb => Nat.lt_of_lt_of_le (h.sx b hb) hE.size⟩
theorem FrAt.split (h : FrAt A W B bx rs) (j : Nat) {r : RowD} (hr : rs[j]? = some r) : FrG A B bx (rs.eraseIdx j) r.v W ∧ r.at W B := by
  have hj := lt_of_some hr
  have hrj : rs[j] = r := by rw [List.getElem?_eq_getElem hj] at hr; exact Option.some.inj hr
  have h1 := h.ro r (List.mem_of_getElem? hr)
  refine ⟨⟨⟨h.ext, h.hA, h.bo, h.bd, fun s hs => h.ro s (List.mem_of_mem_eraseIdx hs), h.rd.sublist (List.eraseIdx_sublist ..), h.sz⟩, fun s hs => ?_, fun b hb => (h1.lt b hb).2⟩, h1⟩
  obtain ⟨m, hm, hm2⟩ := List.mem_eraseIdx_iff_getElem.1 hs
  obtain ⟨hne, rfl⟩ := hm2
  have hp := List.pairwise_iff_getElem.1 h.rd
  rcases Nat.lt_or_ge m j with c | c
  · have := hp m j hm hj c; rwa [hrj] at this
  · have := (hp j m hj hm (by omega)).symm; rwa [hrj] at this
theorem pair_sub (l : List RowD) {x y : Nat} (hxy : x < y) (hx : x < l.length) (hy : y < l.length) : [l[x], l[y]].Sublist l := by
  have h0 := List.take_append_drop y l
  conv => rhs; rw [← h0]
  rw [show [l[x], l[y]] = [l[x]] ++ [l[y]] from rfl]
  refine List.Sublist.append ?_ ?_
  · rw [List.singleton_sublist]; exact List.mem_iff_getElem.2 ⟨x, by rw [List.length_take]; omega, by simp⟩
  · rw [List.singleton_sublist]; exact List.mem_iff_getElem.2 ⟨0, by rw [List.length_drop]; omega, by simp⟩
/-- Row j again, longer. -/
theorem FrG.join {v v' : Value} {t : TypeId} {size n : Nat} {cs : List Value} (j : Nat) (hj : j < rs.length) (h : FrG A B bx (rs.eraseIdx j) v W) (hown : W.ownsRow B t size v' n cs) (hap : ∀ r ∈ rs.eraseIdx j, Apart r.v v') : FrAt A W B bx (rs.set j ⟨t, size, v', n, cs⟩) := by
  refine ⟨h.fr.ext, h.fr.hA, h.fr.bo, h.fr.bd, fun s hs => ?_, ?_, h.fr.sz⟩
  · obtain ⟨m, hm, rfl⟩ := List.mem_iff_getElem.1 hs
    rw [List.length_set] at hm
    by_cases hmj : j = m
    · subst hmj; rw [List.getElem_set_self]; exact hown
    · rw [List.getElem_set_ne hmj]
      exact h.fr.ro _ (List.mem_eraseIdx_iff_getElem.2 ⟨m, hm, Ne.symm hmj, rfl⟩)
  · have key : ∀ m (hm : m < rs.length), m ≠ j → rs[m] ∈ rs.eraseIdx j := fun m hm hmj => List.mem_eraseIdx_iff_getElem.2 ⟨m, hm, hmj, rfl⟩
    rw [List.pairwise_iff_getElem]
    intro x y hx hy hxy
    rw [List.length_set] at hx hy
    by_cases h1 : j = x
    · subst h1
      rw [List.getElem_set_self, List.getElem_set_ne (by omega)]
      exact (hap _ (key y hy (by omega))).symm
    · rw [List.getElem_set_ne h1]
      by_cases h2 : j = y
      · subst h2
        rw [List.getElem_set_self]
        exact hap _ (key x hx (Ne.symm h1))
      · rw [List.getElem_set_ne h2]
        have hs := h.fr.rd
        rw [List.pairwise_iff_forall_sublist] at hs
        refine hs ?_
        rw [List.eraseIdx_eq_take_drop_succ]
        rcases Nat.lt_or_ge y j with c | c
        · refine List.Sublist.trans ?_ (List.sublist_append_left _ _)
          have : [rs[x], rs[y]] = [(rs.take j)[x]'(by rw [List.length_take]; omega), (rs.take j)[y]'(by rw [List.length_take]; omega)] := by simp
          rw [this]
          exact pair_sub _ hxy _ _
        · rcases Nat.lt_or_ge x j with d | d
          · have e1 : [rs[x]].Sublist (rs.take j) := by
              rw [List.singleton_sublist]
              exact List.mem_iff_getElem.2 ⟨x, by rw [List.length_take]; omega, by simp⟩
            have e2 : [rs[y]].Sublist (rs.drop (j + 1)) := by
              rw [List.singleton_sublist]
              exact List.mem_iff_getElem.2 ⟨y - (j + 1), by rw [List.length_drop]; omega, by rw [List.getElem_drop]; congr 1; omega⟩
            exact e1.append e2
          · refine List.Sublist.trans ?_ (List.sublist_append_right _ _)
            have : [rs[x], rs[y]] = [(rs.drop (j + 1))[x - (j + 1)]'(by rw [List.length_drop]; omega), (rs.drop (j + 1))[y - (j + 1)]'(by rw [List.length_drop]; omega)] := by
              rw [List.getElem_drop, List.getElem_drop]
              congr 2
              · congr 1; omega
              · congr 1; congr 1; omega
            rw [this]
            exact pair_sub _ (by omega) _ _
/-- An append to row j. -/
theorem FrAt.appended {v' : Value} {n' : Nat} {cs' : List Value} (h : FrAt A W B bx rs) (j : Nat) {r : RowD} (hr : rs[j]? = some r) (hown : W'.ownsRow B r.t r.size v' n' cs') (happ : AppendedW W W' r.v v' B) : FrAt A W' B bx (rs.set j ⟨r.t, r.size, v', n', cs'⟩) := by
  obtain ⟨hG, hro⟩ := h.split j hr
  have hbs := fun (s : RowD) (hs : s ∈ rs.eraseIdx j) => ownsRow_beside (hG.fr.ro s hs) (hG.ap s hs) happ
  exact FrG.join (v := r.v) j (lt_of_some hr) ⟨⟨happ.exts A hG.fr.ext hG.fr.hA, hG.fr.hA, fun b hb => ⟨((hG.fr.bo b hb).1.appended happ (fun e => by have := (hro.lt _ e).1; have := (hG.fr.bo b hb).2.2; omega)).1, (hG.fr.bo b hb).2⟩, hG.fr.bd, fun s hs => (hbs s hs).1, hG.fr.rd, Nat.le_trans hG.fr.sz happ.size⟩, hG.ap, fun b hb => Nat.lt_of_lt_of_le (hG.sx b hb) happ.size⟩ hown (fun s hs => (hbs s hs).2)
/-- What is known of a region's operations: a value, a slice of one element just written out, the longer slice. -/
inductive Kd where
  | val (v : Value)
  | lit (t : TypeId) (cs : List Value)
  | app (t : TypeId) (size n : Nat) (cs : List Value)
  | any
def FrPhi (B : Nat) (os : List RowD) (vx : Value) (tab : Nat → Kd) (c : Nat) (v : Value) (W : World) : Prop :=
  match tab c with
  | .val u => v = u
  | .lit t cs => ∃ nb, v = .slice (some ⟨nb, 0, none⟩) 1 1 ∧ LaysAs W nb (.cells cs.toArray t (0, 0)) ∧ vx.ownBlock ≠ some nb
  | .app t size n cs => W.ownsRow B t size v n cs ∧ ∀ r ∈ os, Apart r.v v
  | .any => True
theorem FrPhi.exts {os : List RowD} {vx v : Value} {tab : Nat → Kd} {c : Nat} (h : FrPhi B os vx tab c v W) (hE : W.Exts W') : FrPhi B os vx tab c v W' := by
  unfold FrPhi at h ⊢
  cases ht : tab c with
  | val u => rw [ht] at h; exact h
  | any => trivial
  | lit t cs => rw [ht] at h; obtain ⟨nb, k1, k2, k3⟩ := h; exact ⟨nb, k1, k2.exts hE, k3⟩
  | app t size n cs => rw [ht] at h; exact ⟨ownsRow_exts h.1 hE, h.2⟩
/-- The growing row is as it was, until the append has run. -/
def FrInv (A : World) (B : Nat) (bx : List BoxD) (os : List RowD) (r : RowD) (ca : Nat) (listed : Array Bool) (W : World) : Prop :=
  FrG A B bx os r.v W ∧ (listed.getD ca true = false → r.at W B)
section
variable {os : List RowD} {r : RowD} {ca c : Nat} {listed : Array Bool}
theorem FrInv.exts (h : FrInv A B bx os r ca listed W) (hc : c ≠ ca) (hE : W.Exts W') : FrInv A B bx os r ca (listed.setIfInBounds c true) W' := ⟨h.1.exts hE, fun e => ownsRow_exts (h.2 (unlisted hc e)) hE⟩
theorem FrInv.same (h : FrInv A B bx os r ca listed W) (hc : c ≠ ca) : FrInv A B bx os r ca (listed.setIfInBounds c true) W := ⟨h.1, fun e => h.2 (unlisted hc e)⟩
theorem FrInv.start (h : FrG A B bx os r.v W) (hr : r.at W B) : FrInv A B bx os r ca listed W.drew := ⟨h.exts (World.Exts.refl W).drew, fun _ => ownsRow_exts hr (World.Exts.refl W).drew⟩
theorem FrInv.appended {v' : Value} {tab : Nat → Kd} {n' : Nat} {cs' : List Value} (h : FrInv A B bx os r ca listed W) (hun : listed.getD ca true = false) (hown : W'.ownsRow B r.t r.size v' n' cs') (happ : AppendedW W W' r.v v' B) (hsz : ca < listed.size) (htab : tab ca = .app r.t r.size n' cs') (hone : ∀ c t size n cs, tab c = .app t size n cs → c = ca) :
    FrInv A B bx os r ca (listed.setIfInBounds ca true) W' ∧ FrPhi B os r.v tab ca v' W' ∧ ∀ c u, listed.getD c true = true → FrPhi B os r.v tab c u W → FrPhi B os r.v tab c u W' := by
  have hr := h.2 hun
  have hG := h.1
  have hbs := fun (s : RowD) (hs : s ∈ os) => ownsRow_beside (hG.fr.ro s hs) (hG.ap s hs) happ
  refine ⟨⟨⟨⟨happ.exts A hG.fr.ext hG.fr.hA, hG.fr.hA, fun b hb => ⟨((hG.fr.bo b hb).1.appended happ (fun e => by have := (hr.lt _ e).1; have := (hG.fr.bo b hb).2.2; omega)).1, (hG.fr.bo b hb).2⟩, hG.fr.bd, fun s hs => (hbs s hs).1, hG.fr.rd, Nat.le_trans hG.fr.sz happ.size⟩, hG.ap, fun b hb => Nat.lt_of_lt_of_le (hG.sx b hb) happ.size⟩, fun e => ?_⟩, ?_, fun c u hl hΦ => ?_⟩
  · rw [getD_set_same true hsz] at e; cases e
  · unfold FrPhi; rw [htab]; exact ⟨hown, fun s hs => (hbs s hs).2⟩
  · unfold FrPhi at hΦ ⊢
    cases ht : tab c with
    | val v => rw [ht] at hΦ; exact hΦ
    | any => trivial
    | lit t cs => rw [ht] at hΦ; obtain ⟨nb, k1, k2, k3⟩ := hΦ; exact ⟨nb, k1, (k2.appended happ k3).1, k3⟩
    | app t size n cs => have := hone c t size n cs ht; subst this; rw [hun] at hl; cases hl
theorem FrInv.litPhi {tab : Nat → Kd} {t : TypeId} {cs : List Value} (h : FrG A B bx os r.v W) (htab : tab c = .lit t cs) : FrPhi B os r.v tab c (.slice (some ⟨W.heap.size, 0, none⟩) 1 1) (W.alloc (.cells cs.toArray t)) := by
  unfold FrPhi; rw [htab]; exact ⟨W.heap.size, rfl, laysAs_size W _ rfl, fun e => Nat.lt_irrefl _ (h.sx _ e)⟩
theorem FrPhi.mkVal {tab : Nat → Kd} {v vx : Value} (htab : tab c = .val v) : FrPhi B os vx tab c v W := by unfold FrPhi; rw [htab]
theorem FrPhi.getVal {tab : Nat → Kd} {u v vx : Value} (h : FrPhi B os vx tab c u W) (htab : tab c = .val v) : u = v := by unfold FrPhi at h; rw [htab] at h; exact h
theorem FrPhi.getLit {tab : Nat → Kd} {u vx : Value} {t : TypeId} {cs : List Value} (h : FrPhi B os vx tab c u W) (htab : tab c = .lit t cs) : ∃ nb, u = .slice (some ⟨nb, 0, none⟩) 1 1 ∧ LaysAs W nb (.cells cs.toArray t (0, 0)) ∧ vx.ownBlock ≠ some nb := by unfold FrPhi at h; rw [htab] at h; exact h
theorem FrPhi.getApp {tab : Nat → Kd} {u vx : Value} {t : TypeId} {size n : Nat} {cs : List Value} (h : FrPhi B os vx tab c u W) (htab : tab c = .app t size n cs) : W.ownsRow B t size u n cs ∧ ∀ r ∈ os, Apart r.v u := by unfold FrPhi at h; rw [htab] at h; exact h
end
end
/-- A slice of one number, written out. -/
theorem gives_ints {o : Oper} {ρ : Operand → Value} {W : World} {R : Value → World → Prop} {x : Operand} {a : Int} (ho : o.op = .buildSlice 25 1 #[(0, x)]) (hx : ρ x = .int .i64 a) (h : R (.slice (some ⟨W.heap.size, 0, none⟩) 1 1) (W.alloc (.cells #[.int .i64 a] 3))) : o.givesI Tryz.prog ρ W R := by
  refine .inl (.inr ⟨_, _, ?_, h⟩)
  unfold execOp
  simp only [ho, List.map_toArray, List.map_cons, List.map_nil, hx]
  kernel_rfl
/-- A call of a closure with captures, in a region. -/
theorem gives_valC {P : Program} {o : Oper} {c : Call} {f : FuncId} {x : Operand} {ρ : Operand → Value} {w : World} {R : Value → World → Prop} {xs : List Operand} {cs : Array Value} (ho : o.op = .call c) (hc : c.callee = .value x) (hx : c.args = xs.toArray) (ef : ∀ args w, (callFunc f args).run P w = .ok (.enter f args) w)
    (hρ : ρ x = .func (.func f) #[] cs) (h : Calls P f ((xs.map ρ).toArray ++ cs) w fun e w' => ∃ v, e = .returned v ∧ R v w') : o.gives P ρ w R := by
  refine .inl ⟨f, (xs.map ρ).toArray ++ cs, ?_, h⟩
  unfold execOp
  simp [ho, resolve, hc, hρ, Deferred.ofValue, invoke, ef, hx]
/-- What a region's four steps yield: a value, another one, a slice of it, the longer slice. -/
def appTab (ci cb cs ca : Nat) (v1 v2 : Value) (t : TypeId) (lit : List Value) (size n : Nat) (cells : List Value) : Nat → Kd := fun c =>
  if c = ci then .val v1 else if c = cb then .val v2 else if c = cs then .lit t lit else if c = ca then .app t size n cells else .any
theorem appTab_one {ci cb cs ca : Nat} {v1 v2 : Value} {t : TypeId} {lit : List Value} {size n : Nat} {cells : List Value} : ∀ c t' s' n' cs', appTab ci cb cs ca v1 v2 t lit size n cells c = .app t' s' n' cs' → c = ca := by
  intro c t' s' n' cs' h
  unfold appTab at h
  split at h
  · cases h
  · split at h
    · cases h
    · split at h
      · cases h
      · split at h
        · assumption
        · cases h
theorem gives_sum {o : Oper} {ρ : Operand → Value} {W : World} {R : Value → World → Prop} {x y : Operand} {a b : Int} (ho : o.op = .binOp .add 3 x y 3) (hx : ρ x = .int .i64 a) (hy : ρ y = .int .i64 b) (h : R (.int .i64 (IntKind.i64.wrap (a + b))) W) : o.givesI Tryz.prog ρ W R := by
  refine .inl (.inr ⟨_, _, ?_, h⟩)
  unfold execOp
  simp only [ho, hx, hy]
  kernel_rfl
theorem FrInv.done {A W W' : World} {B t size n ci cb cl ca len : Nat} {bx : List BoxD} {os : List RowD} {x v' v1 v2 : Value} {cs news lit : List Value} {listed : Array Bool} {U : Nat → Bool} {ν : Nat → Value} (h : FrInv A B bx os ⟨t, size, x, n, cs⟩ ca listed W) (hun : listed.getD ca true = false) (hown : W'.ownsRow B t size v' (n + 1) (cs ++ news)) (happ : AppendedW W W' x v' B) (hsz : ca < listed.size) (h1 : ca ≠ ci) (h2 : ca ≠ cb) (h3 : ca ≠ cl) :
    FrInv A B bx os ⟨t, size, x, n, cs⟩ ca (listed.setIfInBounds ca true) W' ∧ FrPhi B os x (appTab ci cb cl ca v1 v2 t lit size (n + 1) (cs ++ news)) ca v' W' ∧ ∀ c', c' < len → U c' = true → listed.getD c' true = true → FrPhi B os x (appTab ci cb cl ca v1 v2 t lit size (n + 1) (cs ++ news)) c' (ν c') W → FrPhi B os x (appTab ci cb cl ca v1 v2 t lit size (n + 1) (cs ++ news)) c' (ν c') W' := by
  obtain ⟨k1, k2, k3⟩ := FrInv.appended (tab := appTab ci cb cl ca v1 v2 t lit size (n + 1) (cs ++ news)) h hun hown happ hsz (by unfold appTab; rw [if_neg h1, if_neg h2, if_neg h3, if_pos rfl]) appTab_one
  exact ⟨k1, k2, fun c' _ _ hl h => k3 c' _ hl h⟩
end Go.Proofs.YtfjkiemjmnnbkaaGreatDoor
