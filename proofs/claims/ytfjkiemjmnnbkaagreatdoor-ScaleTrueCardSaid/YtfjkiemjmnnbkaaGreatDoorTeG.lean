/-
  Several texts in one: see the heads of its parts.
-/
import Derived.Test.YtfjkiemjmnnbkaaGreatDoorInv
import Derived.Test.YtfjkiemjmnnbkaaGreatDoorAg
import Derived.Test.YtfjkiemjmnnbkaaGreatDoorWd
import Derived.Test.YtfjkiemjmnnbkaaGreatDoorPt
import Derived.Test.YtfjkiemjmnnbkaaGreatDoorWhole
import Derived.Test.YtfjkiemjmnnbkaaGreatDoorHp

/-
  A function's own boxes and rows, all beside each other; what an append in a region that draws its order leaves of them. General laws.
-/
namespace Go.Proofs.YtfjkiemjmnnbkaaGreatDoor
open Go.RowKit Kr
set_option linter.unusedSimpArgs false

/-- A row of the function's own: its elements' type and size, the slice, its length and cells. -/
structure RowD where
  t : TypeId
  size : Nat
  v : Value
  n : Nat
  cs : List Value
abbrev RowD.at (r : RowD) (W : World) (B : Nat) : Prop := W.ownsRow B r.t r.size r.v r.n r.cs
abbrev Apart (a b : Value) : Prop := ∀ k, a.ownBlock = some k → b.ownBlock ≠ some k
theorem Apart.symm {a b : Value} (h : Apart a b) : Apart b a := fun k hk e => h k e hk
theorem Apart.none (a : Value) : Apart (.slice none 0 0) a := fun k hk => by simp [Value.ownBlock] at hk
/-- A box: its block, its type and cells. -/
structure BoxD where
  p : Nat
  t : TypeId
  cs : List Value
abbrev BoxD.at (b : BoxD) (W : World) : Prop := LaysAs W b.p (.cells b.cs.toArray b.t (0, 0))
/-- Boxes and rows beside each other, in a world that extends A; rows lie from B on, boxes below. -/
structure FrAt (A W : World) (B : Nat) (bx : List BoxD) (rs : List RowD) : Prop where
  ext : A.Exts W
  hA : A.heap.size ≤ B
  bo : ∀ b ∈ bx, b.at W ∧ A.heap.size ≤ b.p ∧ b.p < B
  bd : bx.Pairwise fun a b => a.p ≠ b.p
  ro : ∀ r ∈ rs, r.at W B
  rd : rs.Pairwise fun a b => Apart a.v b.v
  sz : B ≤ W.heap.size
section
variable {A W W' : World} {B : Nat} {bx : List BoxD} {rs : List RowD}
theorem FrAt.exts (h : FrAt A W B bx rs) (hE : W.Exts W') : FrAt A W' B bx rs :=
  ⟨h.ext.trans hE, h.hA, fun b hb => ⟨(h.bo b hb).1.exts hE, (h.bo b hb).2⟩, h.bd, fun r hr => ownsRow_exts (h.ro r hr) hE, h.rd, Nat.le_trans h.sz hE.size⟩
theorem FrAt.box (h : FrAt A W B bx rs) (j : Nat) {b : BoxD} (hb : bx[j]? = some b) : b.at W := (h.bo b (List.mem_of_getElem? hb)).1
theorem FrAt.row (h : FrAt A W B bx rs) (j : Nat) {r : RowD} (hr : rs[j]? = some r) : r.at W B := h.ro r (List.mem_of_getElem? hr)
/-- A store into a box. -/
theorem FrAt.store (h : FrAt A W B bx rs) (j i : Nat) {b : BoxD} (hb : bx[j]? = some b) (u : Value) : FrAt A (W.setCell ⟨b.p, i, none⟩ u) B (bx.set j { b with cs := b.cs.set i u }) rs := by
  have h0 := h.bo b (List.mem_of_getElem? hb)
  have hj := lt_of_some hb
  refine ⟨World.Exts.setCell h.ext h0.2.1 _, h.hA, fun c hc => ?_, ?_, fun r hr => (h.ro r hr).set h0.2.2 _, h.rd, by simpa using h.sz⟩
  · obtain ⟨m, hm, rfl⟩ := List.mem_iff_getElem.1 hc
    rw [List.length_set] at hm
    by_cases hmj : j = m
    · subst hmj
      rw [List.getElem_set_self]
      exact ⟨LaysAs.set h0.1 u, h0.2⟩
    · rw [List.getElem_set_ne hmj]
      have h1 := h.bo bx[m] (List.getElem_mem hm)
      refine ⟨laysAs_other h1.1 (fun e => ?_) u, h1.2⟩
      have hbj : bx[j] = b := by rw [List.getElem?_eq_getElem hj] at hb; exact Option.some.inj hb
      have hp := List.pairwise_iff_getElem.1 h.bd
      rcases Nat.lt_or_ge m j with c | c
      · have := hp m j hm hj c; rw [hbj] at this; exact this e
      · have := hp j m hj hm (by omega); rw [hbj] at this; exact this e.symm
  · rw [List.pairwise_iff_getElem]
    intro x y hx hy hxy
    rw [List.length_set] at hx hy
    have hp := List.pairwise_iff_getElem.1 h.bd x y hx hy hxy
    have hbj : bx[j] = b := by rw [List.getElem?_eq_getElem hj] at hb; exact Option.some.inj hb
    have e : ∀ k (hk : k < bx.length) (hk2 : k < (bx.set j { b with cs := b.cs.set i u }).length), (bx.set j { b with cs := b.cs.set i u })[k].p = bx[k].p := fun k hk hk2 => by
      by_cases hjk : j = k
      · subst hjk; rw [List.getElem_set_self, hbj]
      · rw [List.getElem_set_ne hjk]
    rw [e x hx, e y hy]
    exact hp
/-- What stays while row v grows: the boxes, the other rows. -/
structure FrG (A : World) (B : Nat) (bx : List BoxD) (os : List RowD) (v : Value) (W : World) : Prop where
  fr : FrAt A W B bx os
  ap : ∀ r ∈ os, Apart r.v v
  sx : ∀ b, v.ownBlock = some b → b < W.heap.size
theorem FrG.exts {os : List RowD} {v : Value} (h : FrG A B bx os v W) (hE : W.Exts W') : FrG A B bx os v W' := ⟨h.fr.exts hE, h.ap, fun b hb => Nat.lt_of_lt_of_le (h.sx b hb) hE.size⟩
theorem FrAt.split (h : FrAt A W B bx rs) (j : Nat) {r : RowD} (hr : rs[j]? = some r) : FrG A B bx (rs.eraseIdx j) r.v W ∧ r.at W B := by
  have hj := lt_of_some hr
  have hrj : rs[j] = r := by rw [List.getElem?_eq_getElem hj] at hr; exact Option.some.inj hr
  have h1 := h.ro r (List.mem_of_getElem? hr)
  refine ⟨⟨⟨h.ext, h.hA, h.bo, h.bd, fun s hs => h.ro s (List.mem_of_mem_eraseIdx hs), h.rd.sublist (List.eraseIdx_sublist ..), h.sz⟩, fun s hs => ?_, fun b hb => (h1.lt b hb).2⟩, h1⟩
  obtain ⟨m, hm, hm2⟩ := List.mem_eraseIdx_iff_getElem.1 hs
  obtain ⟨hne, rfl⟩ := hm2
  have hp := List.pairwise_iff_getElem.1 h.rd
  rcases Nat.lt_or_ge m j with c | c
  · have := hp m j hm hj c; rwa [hrj] at this
  · have := (hp j m hj hm (by omega)).symm; rwa [hrj] at this
theorem pair_sub (l : List RowD) {x y : Nat} (hxy : x < y) (hx : x < l.length) (hy : y < l.length) : [l[x], l[y]].Sublist l := by
  have h0 := List.take_append_drop y l
  conv => rhs; rw [← h0]
  rw [show [l[x], l[y]] = [l[x]] ++ [l[y]] from rfl]
  refine List.Sublist.append ?_ ?_
  · rw [List.singleton_sublist]; exact List.mem_iff_getElem.2 ⟨x, by rw [List.length_take]; omega, by simp⟩
  · rw [List.singleton_sublist]; exact List.mem_iff_getElem.2 ⟨0, by rw [List.length_drop]; omega, by simp⟩
/-- Row j again, longer. -/
theorem FrG.join {v v' : Value} {t : TypeId} {size n : Nat} {cs : List Value} (j : Nat) (hj : j < rs.length) (h : FrG A B bx (rs.eraseIdx j) v W) (hown : W.ownsRow B t size v' n cs) (hap : ∀ r ∈ rs.eraseIdx j, Apart r.v v') : FrAt A W B bx (rs.set j ⟨t, size, v', n, cs⟩) := by
  refine ⟨h.fr.ext, h.fr.hA, h.fr.bo, h.fr.bd, fun s hs => ?_, ?_, h.fr.sz⟩
  · obtain ⟨m, hm, rfl⟩ := List.mem_iff_getElem.1 hs
    rw [List.length_set] at hm
    by_cases hmj : j = m
    · subst hmj; rw [List.getElem_set_self]; exact hown
    · rw [List.getElem_set_ne hmj]
      exact h.fr.ro _ (List.mem_eraseIdx_iff_getElem.2 ⟨m, hm, Ne.symm hmj, rfl⟩)
  · have key : ∀ m (hm : m < rs.length), m ≠ j → rs[m] ∈ rs.eraseIdx j := fun m hm hmj => List.mem_eraseIdx_iff_getElem.2 ⟨m, hm, hmj, rfl⟩
    rw [List.pairwise_iff_getElem]
    intro x y hx hy hxy
    rw [List.length_set] at hx hy
    by_cases h1 : j = x
    · subst h1
      rw [List.getElem_set_self, List.getElem_set_ne (by omega)]
      exact (hap _ (key y hy (by omega))).symm
    · rw [List.getElem_set_ne h1]
      by_cases h2 : j = y
      · subst h2
        rw [List.getElem_set_self]
        exact hap _ (key x hx (Ne.symm h1))
      · rw [List.getElem_set_ne h2]
        have hs := h.fr.rd
        rw [List.pairwise_iff_forall_sublist] at hs
        refine hs ?_
        rw [List.eraseIdx_eq_take_drop_succ]
        rcases Nat.lt_or_ge y j with c | c
        · refine List.Sublist.trans ?_ (List.sublist_append_left _ _)
          have : [rs[x], rs[y]] = [(rs.take j)[x]'(by rw [List.length_take]; omega), (rs.take j)[y]'(by rw [List.length_take]; omega)] := by simp
          rw [this]
          exact pair_sub _ hxy _ _
        · rcases Nat.lt_or_ge x j with d | d
          · have e1 : [rs[x]].Sublist (rs.take j) := by
              rw [List.singleton_sublist]
              exact List.mem_iff_getElem.2 ⟨x, by rw [List.length_take]; omega, by simp⟩
            have e2 : [rs[y]].Sublist (rs.drop (j + 1)) := by
              rw [List.singleton_sublist]
              exact List.mem_iff_getElem.2 ⟨y - (j + 1), by rw [List.length_drop]; omega, by rw [List.getElem_drop]; congr 1; omega⟩
            exact e1.append e2
          · refine List.Sublist.trans ?_ (List.sublist_append_right _ _)
            have : [rs[x], rs[y]] = [(rs.drop (j + 1))[x - (j + 1)]'(by rw [List.length_drop]; omega), (rs.drop (j + 1))[y - (j + 1)]'(by rw [List.length_drop]; omega)] := by
              rw [List.getElem_drop, List.getElem_drop]
              congr 2
              · congr 1; omega
              · congr 1; congr 1; omega
            rw [this]
            exact pair_sub _ (by omega) _ _
/-- An append to row j. -/
theorem FrAt.appended {v' : Value} {n' : Nat} {cs' : List Value} (h : FrAt A W B bx rs) (j : Nat) {r : RowD} (hr : rs[j]? = some r) (hown : W'.ownsRow B r.t r.size v' n' cs') (happ : AppendedW W W' r.v v' B) : FrAt A W' B bx (rs.set j ⟨r.t, r.size, v', n', cs'⟩) := by
  obtain ⟨hG, hro⟩ := h.split j hr
  have hbs := fun (s : RowD) (hs : s ∈ rs.eraseIdx j) => ownsRow_beside (hG.fr.ro s hs) (hG.ap s hs) happ
  exact FrG.join (v := r.v) j (lt_of_some hr) ⟨⟨happ.exts A hG.fr.ext hG.fr.hA, hG.fr.hA, fun b hb => ⟨((hG.fr.bo b hb).1.appended happ (fun e => by have := (hro.lt _ e).1; have := (hG.fr.bo b hb).2.2; omega)).1, (hG.fr.bo b hb).2⟩, hG.fr.bd, fun s hs => (hbs s hs).1, hG.fr.rd, Nat.le_trans hG.fr.sz happ.size⟩, hG.ap, fun b hb => Nat.lt_of_lt_of_le (hG.sx b hb) happ.size⟩ hown (fun s hs => (hbs s hs).2)
/-- What is known of a region's operations: a value, a slice of one element just written out, the longer slice. -/
inductive Kd where
  | val (v : Value)
  | lit (t : TypeId) (cs : List Value)
  | app (t : TypeId) (size n : Nat) (cs : List Value)
  | any
def FrPhi (B : Nat) (os : List RowD) (vx : Value) (tab : Nat → Kd) (c : Nat) (v : Value) (W : World) : Prop :=
  match tab c with
  | .val u => v = u
  | .lit t cs => ∃ nb, v = .slice (some ⟨nb, 0, none⟩) 1 1 ∧ LaysAs W nb (.cells cs.toArray t (0, 0)) ∧ vx.ownBlock ≠ some nb
  | .app t size n cs => W.ownsRow B t size v n cs ∧ ∀ r ∈ os, Apart r.v v
  | .any => True
theorem FrPhi.exts {os : List RowD} {vx v : Value} {tab : Nat → Kd} {c : Nat} (h : FrPhi B os vx tab c v W) (hE : W.Exts W') : FrPhi B os vx tab c v W' := by
  unfold FrPhi at h ⊢
  cases ht : tab c with
  | val u => rw [ht] at h; exact h
  | any => trivial
  | lit t cs => rw [ht] at h; obtain ⟨nb, k1, k2, k3⟩ := h; exact ⟨nb, k1, k2.exts hE, k3⟩
  | app t size n cs => rw [ht] at h; exact ⟨ownsRow_exts h.1 hE, h.2⟩
/-- The growing row is as it was, until the append has run. -/
def FrInv (A : World) (B : Nat) (bx : List BoxD) (os : List RowD) (r : RowD) (ca : Nat) (listed : Array Bool) (W : World) : Prop :=
  FrG A B bx os r.v W ∧ (listed.getD ca true = false → r.at W B)
section
variable {os : List RowD} {r : RowD} {ca c : Nat} {listed : Array Bool}
theorem FrInv.exts (h : FrInv A B bx os r ca listed W) (hc : c ≠ ca) (hE : W.Exts W') : FrInv A B bx os r ca (listed.setIfInBounds c true) W' := ⟨h.1.exts hE, fun e => ownsRow_exts (h.2 (unlisted hc e)) hE⟩
theorem FrInv.same (h : FrInv A B bx os r ca listed W) (hc : c ≠ ca) : FrInv A B bx os r ca (listed.setIfInBounds c true) W := ⟨h.1, fun e => h.2 (unlisted hc e)⟩
theorem FrInv.start (h : FrG A B bx os r.v W) (hr : r.at W B) : FrInv A B bx os r ca listed W.drew := ⟨h.exts (World.Exts.refl W).drew, fun _ => ownsRow_exts hr (World.Exts.refl W).drew⟩
theorem FrInv.appended {v' : Value} {tab : Nat → Kd} {n' : Nat} {cs' : List Value} (h : FrInv A B bx os r ca listed W) (hun : listed.getD ca true = false) (hown : W'.ownsRow B r.t r.size v' n' cs') (happ : AppendedW W W' r.v v' B) (hsz : ca < listed.size) (htab : tab ca = .app r.t r.size n' cs') (hone : ∀ c t size n cs, tab c = .app t size n cs → c = ca) :
    FrInv A B bx os r ca (listed.setIfInBounds ca true) W' ∧ FrPhi B os r.v tab ca v' W' ∧ ∀ c u, listed.getD c true = true → FrPhi B os r.v tab c u W → FrPhi B os r.v tab c u W' := by
  have hr := h.2 hun
  have hG := h.1
  have hbs := fun (s : RowD) (hs : s ∈ os) => ownsRow_beside (hG.fr.ro s hs) (hG.ap s hs) happ
  refine ⟨⟨⟨⟨happ.exts A hG.fr.ext hG.fr.hA, hG.fr.hA, fun b hb => ⟨((hG.fr.bo b hb).1.appended happ (fun e => by have := (hr.lt _ e).1; have := (hG.fr.bo b hb).2.2; omega)).1, (hG.fr.bo b hb).2⟩, hG.fr.bd, fun s hs => (hbs s hs).1, hG.fr.rd, Nat.le_trans hG.fr.sz happ.size⟩, hG.ap, fun b hb => Nat.lt_of_lt_of_le (hG.sx b hb) happ.size⟩, fun e => ?_⟩, ?_, fun c u hl hΦ => ?_⟩
  · rw [getD_set_same true hsz] at e; cases e
  · unfold FrPhi; rw [htab]; exact ⟨hown, fun s hs => (hbs s hs).2⟩
  · unfold FrPhi at hΦ ⊢
    cases ht : tab c with
    | val v => rw [ht] at hΦ; exact hΦ
    | any => trivial
    | lit t cs => rw [ht] at hΦ; obtain ⟨nb, k1, k2, k3⟩ := hΦ; exact ⟨nb, k1, (k2.appended happ k3).1, k3⟩
    | app t size n cs => have := hone c t size n cs ht; subst this; rw [hun] at hl; cases hl
theorem FrInv.litPhi {tab : Nat → Kd} {t : TypeId} {cs : List Value} (h : FrG A B bx os r.v W) (htab : tab c = .lit t cs) : FrPhi B os r.v tab c (.slice (some ⟨W.heap.size, 0, none⟩) 1 1) (W.alloc (.cells cs.toArray t)) := by
  unfold FrPhi; rw [htab]; exact ⟨W.heap.size, rfl, laysAs_size W _ rfl, fun e => Nat.lt_irrefl _ (h.sx _ e)⟩
theorem FrPhi.mkVal {tab : Nat → Kd} {v vx : Value} (htab : tab c = .val v) : FrPhi B os vx tab c v W := by unfold FrPhi; rw [htab]
theorem FrPhi.getVal {tab : Nat → Kd} {u v vx : Value} (h : FrPhi B os vx tab c u W) (htab : tab c = .val v) : u = v := by unfold FrPhi at h; rw [htab] at h; exact h
theorem FrPhi.getLit {tab : Nat → Kd} {u vx : Value} {t : TypeId} {cs : List Value} (h : FrPhi B os vx tab c u W) (htab : tab c = .lit t cs) : ∃ nb, u = .slice (some ⟨nb, 0, none⟩) 1 1 ∧ LaysAs W nb (.cells cs.toArray t (0, 0)) ∧ vx.ownBlock ≠ some nb := by unfold FrPhi at h; rw [htab] at h; exact h
theorem FrPhi.getApp {tab : Nat → Kd} {u vx : Value} {t : TypeId} {size n : Nat} {cs : List Value} (h : FrPhi B os vx tab c u W) (htab : tab c = .app t size n cs) : W.ownsRow B t size u n cs ∧ ∀ r ∈ os, Apart r.v u := by unfold FrPhi at h; rw [htab] at h; exact h
end
end
/-- A slice of one number, written out. -/
theorem gives_ints {o : Oper} {ρ : Operand → Value} {W : World} {R : Value → World → Prop} {x : Operand} {a : Int} (ho : o.op = .buildSlice 25 1 #[(0, x)]) (hx : ρ x = .int .i64 a) (h : R (.slice (some ⟨W.heap.size, 0, none⟩) 1 1) (W.alloc (.cells #[.int .i64 a] 3))) : o.givesI Tryz.prog ρ W R := by
  refine .inl (.inr ⟨_, _, ?_, h⟩)
  unfold execOp
  simp only [ho, List.map_toArray, List.map_cons, List.map_nil, hx]
  kernel_rfl
/-- A call of a closure with captures, in a region. -/
theorem gives_valC {P : Program} {o : Oper} {c : Call} {f : FuncId} {x : Operand} {ρ : Operand → Value} {w : World} {R : Value → World → Prop} {xs : List Operand} {cs : Array Value} (ho : o.op = .call c) (hc : c.callee = .value x) (hx : c.args = xs.toArray) (ef : ∀ args w, (callFunc f args).run P w = .ok (.enter f args) w)
    (hρ : ρ x = .func (.func f) #[] cs) (h : Calls P f ((xs.map ρ).toArray ++ cs) w fun e w' => ∃ v, e = .returned v ∧ R v w') : o.gives P ρ w R := by
  refine .inl ⟨f, (xs.map ρ).toArray ++ cs, ?_, h⟩
  unfold execOp
  simp [ho, resolve, hc, hρ, Deferred.ofValue, invoke, ef, hx]
end Go.Proofs.YtfjkiemjmnnbkaaGreatDoor

/-
  What a drawn sled passes: what is told agrees with what is so. The plain law behind ScaleTrue.
-/
namespace Go.Proofs.YtfjkiemjmnnbkaaGreatDoor
open Go.RowKit Kr
set_option linter.unusedSimpArgs false

def kTe (by_ : List Int) (n i : Nat) : Nat := (chooseL by_ (12 + i) % (n : Int)).toNat
def psT (by_ ws : List Int) (n m : Nat) : List (Nat × Int) := (List.range m).map fun i => (kTe by_ n i, wAt ws i)
def ldT (D : Drawn) (by_ ws : List Int) (m : Nat) : List Kr.Load := (psT by_ ws D.length m).map (loadBy D)
def errT (by_ : List Int) (i : Nat) (most : Int) : Int := chooseL by_ i % (2 * most + 1) - most
def addT (by_ : List Int) : Int := chooseL by_ 8 % 10000
def jitT (by_ : List Int) : Int := chooseL by_ 9 % 20
def sprT (by_ : List Int) : Int := chooseL by_ 10 % 30
def staT (by_ : List Int) : Bool := chooseL by_ 11 % 2 == 0
def basT (by_ : List Int) : Int := chooseL by_ 18 % 200 - 100
def harT (by_ : List Int) : Int := 400 + chooseL by_ 19 % 100
def biaT (by_ : List Int) : Int := chooseL by_ 20 % 50 - 25
def dT (by_ : List Int) (i : Nat) : Int := chooseL by_ (23 + i) % 80
def runT (by_ : List Int) (i : Nat) : Int := basT by_ + dT by_ i + biaT by_ + errT by_ (28 + i) (jitT by_)
def strT (by_ : List Int) (i : Nat) : Int := harT by_ + errT by_ (34 + i) (sprT by_)
def begT (by_ : List Int) : Int := basT by_ + biaT by_ + errT by_ 21 (jitT by_)
def nrT (by_ : List Int) : Nat := (chooseL by_ 22 % 5).toNat
def nsT (by_ : List Int) : Nat := (chooseL by_ 33 % 5).toNat
def warmL (by_ : List Int) (a : Nat) : List Int := (List.range a).map (dT by_)
def runL (by_ : List Int) (a : Nat) : List Int := (List.range a).map (runT by_)
def strL (by_ : List Int) (a : Nat) : List Int := (List.range a).map (strT by_)
def coolT (by_ : List Int) (m : Int) (a : Nat) : Bool := (warmL by_ a).all fun d => decide (d ≤ m)
def gT (D : Drawn) (by_ ws : List Int) (m a b : Nat) : Gear := ⟨ldT D by_ ws m, addT by_, begT by_, jitT by_, runL by_ a, strL by_ b, sprT by_, staT by_⟩
section
variable {by_ ws : List Int} {D : Drawn}
theorem kTe_lt {n i : Nat} (h : 0 < n) : kTe by_ n i < n := by
  unfold kTe
  have h1 := Int.emod_nonneg (chooseL by_ (12 + i)) (show (n : Int) ≠ 0 by omega)
  have h2 := Int.emod_lt_of_pos (chooseL by_ (12 + i)) (show 0 < (n : Int) by omega)
  omega
theorem kTe_int {n i : Nat} (h : 0 < n) : chooseL by_ (12 + i) % (n : Int) = (kTe by_ n i : Int) := by
  unfold kTe
  have h1 := Int.emod_nonneg (chooseL by_ (12 + i)) (show (n : Int) ≠ 0 by omega)
  omega
theorem ldT_succ (m : Nat) : ldT D by_ ws (m + 1) = ldT D by_ ws m ++ [loadBy D (kTe by_ D.length m, wAt ws m)] := by unfold ldT psT; rw [List.range_succ]; simp
theorem ldT_len (m : Nat) : (ldT D by_ ws m).length = m := by unfold ldT psT; simp
theorem psT_snd (n m : Nat) : ((psT by_ ws n m).map Prod.snd).sum = sumW ws m := by unfold psT sumW; rw [List.map_map]; rfl
theorem te_ps {n m : Nat} (h : 0 < n) : ∀ p ∈ psT by_ ws n m, p.1 < n ∧ 0 ≤ p.2 ∧ p.2 ≤ 1000000 := by
  intro p hp
  unfold psT at hp
  obtain ⟨i, _, rfl⟩ := List.mem_map.1 hp
  exact ⟨kTe_lt h, wAt_bd⟩
theorem addT_bd : 0 ≤ addT by_ ∧ addT by_ ≤ 9999 := by unfold addT; omega
theorem jitT_bd : 0 ≤ jitT by_ ∧ jitT by_ ≤ 19 := by unfold jitT; omega
theorem sprT_bd : 0 ≤ sprT by_ ∧ sprT by_ ≤ 29 := by unfold sprT; omega
theorem basT_bd : -100 ≤ basT by_ ∧ basT by_ ≤ 99 := by unfold basT; omega
theorem harT_bd : 400 ≤ harT by_ ∧ harT by_ ≤ 499 := by unfold harT; omega
theorem biaT_bd : -25 ≤ biaT by_ ∧ biaT by_ ≤ 24 := by unfold biaT; omega
theorem dT_bd (i : Nat) : 0 ≤ dT by_ i ∧ dT by_ i ≤ 79 := by unfold dT; omega
theorem errT_bd (i : Nat) {m : Int} (h : 0 ≤ m) : -m ≤ errT by_ i m ∧ errT by_ i m ≤ m := by
  unfold errT
  have h1 := Int.emod_nonneg (chooseL by_ i) (show 2 * m + 1 ≠ 0 by omega)
  have h2 := Int.emod_lt_of_pos (chooseL by_ i) (show 0 < 2 * m + 1 by omega)
  omega
theorem begT_bd : -200 ≤ begT by_ ∧ begT by_ ≤ 200 := by
  have h1 := basT_bd (by_ := by_); have h2 := biaT_bd (by_ := by_); have h3 := jitT_bd (by_ := by_); have h4 := errT_bd (by_ := by_) 21 h3.1
  unfold begT; omega
theorem runT_bd (i : Nat) : -200 ≤ runT by_ i ∧ runT by_ i ≤ 300 := by
  have h1 := basT_bd (by_ := by_); have h2 := biaT_bd (by_ := by_); have h3 := jitT_bd (by_ := by_); have h4 := errT_bd (by_ := by_) (28 + i) h3.1; have h5 := dT_bd (by_ := by_) i
  unfold runT; omega
theorem strT_bd (i : Nat) : 300 ≤ strT by_ i ∧ strT by_ i ≤ 600 := by
  have h1 := harT_bd (by_ := by_); have h3 := sprT_bd (by_ := by_); have h4 := errT_bd (by_ := by_) (34 + i) h3.1
  unfold strT; omega
theorem nrT_bd : nrT by_ ≤ 4 := by unfold nrT; omega
theorem nsT_bd : nsT by_ ≤ 4 := by unfold nsT; omega
theorem nrT_int : chooseL by_ 22 % 5 = (nrT by_ : Int) := by unfold nrT; omega
theorem nsT_int : chooseL by_ 33 % 5 = (nsT by_ : Int) := by unfold nsT; omega
theorem runL_succ (a : Nat) : runL by_ (a + 1) = runL by_ a ++ [runT by_ a] := by unfold runL; rw [List.range_succ]; simp
theorem strL_succ (a : Nat) : strL by_ (a + 1) = strL by_ a ++ [strT by_ a] := by unfold strL; rw [List.range_succ]; simp
theorem warmL_succ (a : Nat) : warmL by_ (a + 1) = warmL by_ a ++ [dT by_ a] := by unfold warmL; rw [List.range_succ]; simp
theorem runL_len (a : Nat) : (runL by_ a).length = a := by simp [runL]
theorem strL_len (a : Nat) : (strL by_ a).length = a := by simp [strL]
theorem warmL_len (a : Nat) : (warmL by_ a).length = a := by simp [warmL]
theorem coolT_succ (m : Int) (a : Nat) : coolT by_ m (a + 1) = (coolT by_ m a && decide (dT by_ a ≤ m)) := by unfold coolT; rw [warmL_succ]; simp
theorem te_bare {m a b : Nat} (ha : a ≤ 8) (hb : b ≤ 8) : bare (gT D by_ ws m a b) = true := by
  have h1 := addT_bd (by_ := by_); have h2 := begT_bd (by_ := by_); have h3 := jitT_bd (by_ := by_); have h4 := sprT_bd (by_ := by_)
  unfold gT bare
  dsimp only
  unfold inAll inb
  simp only [Bool.and_eq_true, decide_eq_true_eq, List.all_eq_true, runL_len, strL_len]
  refine ⟨⟨⟨⟨⟨by omega, by omega⟩, by omega⟩, fun x hx => ?_, ha⟩, fun x hx => ?_, hb⟩, by omega⟩
  · unfold runL at hx
    obtain ⟨i, _, rfl⟩ := List.mem_map.1 hx
    have := runT_bd (by_ := by_) i
    omega
  · unfold strL at hx
    obtain ⟨i, _, rfl⟩ := List.mem_map.1 hx
    have := strT_bd (by_ := by_) i
    omega
theorem te_check (h : bayOk (D.map Prod.fst) = true) (ht : ∀ x ∈ D, TuneOk x.1 x.2) (hD : 0 < D.length) {m a b : Nat} (hm : m ≤ 6) (ha : a ≤ 8) (hb : b ≤ 8) :
    check (drawB D) (gT D by_ ws m a b) = 0 ∧ has (totals (drawB D) (gT D by_ ws m a b)) (addT by_ + sumW ws m) := by
  have hl : (psT by_ ws D.length m).length ≤ 6 := by unfold psT; simpa using hm
  refine ⟨draw_check h ht rfl (te_ps hD) hl (te_bare ha hb), ?_⟩
  have := draw_has h ht (g := gT D by_ ws m a b) rfl (te_ps hD) hl (te_bare ha hb)
  rw [psT_snd] at this
  exact this
theorem te_warm1 (a : Nat) {m p b : Nat} : (warmAt (gT D by_ ws m p b) (runT by_ a)).lo ≤ dT by_ a ∧ dT by_ a ≤ (warmAt (gT D by_ ws m p b) (runT by_ a)).hi := by
  have h3 := jitT_bd (by_ := by_); have h4 := errT_bd (by_ := by_) (28 + a) h3.1; have h5 := errT_bd (by_ := by_) 21 h3.1
  simp only [warmAt, gT, begT, runT]
  omega
theorem te_warm {m a b : Nat} (ha : a ≤ 8) (hb : b ≤ 8) : warm (gT D by_ ws m a b) = ((List.range a).map fun i => warmAt (gT D by_ ws m a b) (runT by_ i), 0) := by
  unfold warm
  rw [if_pos (te_bare ha hb)]
  simp only [gT, runL, List.map_map]
  rfl
theorem hard_foldT {sp x : Int} (l : List Int) (hl : ∀ y ∈ l, y - sp ≤ x ∧ x ≤ y + sp) : ∀ o : Span, (o.lo ≤ x ∧ x ≤ o.hi) → ((l.foldl (hardStep sp) o).lo ≤ x ∧ x ≤ (l.foldl (hardStep sp) o).hi) := by
  induction l with
  | nil => intro o h; exact h
  | cons y l ih =>
    intro o h
    rw [List.foldl_cons]
    have := hl y (List.mem_cons_self ..)
    exact ih (fun z hz => hl z (List.mem_cons_of_mem _ hz)) _ (by unfold hardStep; dsimp only; omega)
theorem te_hard {m a b : Nat} (ha : a ≤ 8) (hb : b ≤ 8) : hard (gT D by_ ws m a b) = (hardOf (gT D by_ ws m a b), 0) ∧ (hardOf (gT D by_ ws m a b)).lo ≤ harT by_ ∧ harT by_ ≤ (hardOf (gT D by_ ws m a b)).hi := by
  have h1 := harT_bd (by_ := by_)
  have h := hard_foldT (sp := sprT by_) (x := harT by_) (strL by_ b) (fun y hy => by
    unfold strL at hy
    obtain ⟨i, _, rfl⟩ := List.mem_map.1 hy
    have h3 := sprT_bd (by_ := by_); have h4 := errT_bd (by_ := by_) (34 + i) h3.1
    unfold strT
    omega) ⟨0, 2000⟩ (by dsimp only; omega)
  have e : hardOf (gT D by_ ws m a b) = (strL by_ b).foldl (hardStep (sprT by_)) ⟨0, 2000⟩ := rfl
  rw [← e] at h
  refine ⟨?_, h⟩
  unfold hard
  rw [if_pos (te_bare ha hb), if_neg (by omega)]
theorem agrees_told {c d x : Bool} (h1 : c = true → x = true) (h2 : d = false → x = false) : agrees (toldR c d) x = true := by
  cases c <;> cases d <;> cases x <;> simp at h1 h2 <;> rfl
theorem agrees_sure (b : Bool) : agrees (sureR b) b = true := by cases b <;> rfl
theorem min_all (l : List Int) : ∀ a : Int, (l.foldl min a ≤ a ∧ ∀ x ∈ l, l.foldl min a ≤ x) ∧ (l.foldl min a = a ∨ l.foldl min a ∈ l) := by
  induction l with
  | nil => intro a; simp
  | cons y l ih =>
    intro a
    rw [List.foldl_cons]
    obtain ⟨⟨h1, h2⟩, h3⟩ := ih (min a y)
    refine ⟨⟨by omega, fun x hx => ?_⟩, ?_⟩
    · rcases List.mem_cons.1 hx with rfl | hx
      · omega
      · exact h2 x hx
    · rcases h3 with h3 | h3
      · rcases Int.le_total a y with h | h
        · left; omega
        · right; rw [h3, List.mem_cons]; left; omega
      · right; exact List.mem_cons_of_mem _ h3
theorem agrees_whole {l : List Int} {b : List Bool} (hl : l.length = b.length) (h : ∀ (i : Nat) (k : Int) (x : Bool), l[i]? = some k → b[i]? = some x → agrees k x = true ∧ 0 ≤ k ∧ k ≤ 2) : agrees (minOf l) (b.all id) = true ∧ 0 ≤ minOf l := by
  obtain ⟨⟨h1, h2⟩, h3⟩ := min_all l 2
  have hr : ∀ k ∈ l, 0 ≤ k ∧ k ≤ 2 := fun k hk => by
    obtain ⟨i, hi, rfl⟩ := List.mem_iff_getElem.1 hk
    exact (h i _ b[i] (List.getElem?_eq_getElem hi) (List.getElem?_eq_getElem (by omega))).2
  have h0 : 0 ≤ minOf l := by
    unfold minOf
    rcases h3 with h3 | h3
    · omega
    · exact (hr _ h3).1
  refine ⟨?_, h0⟩
  have hall : minOf l = 2 → b.all id = true := fun e => by
    rw [List.all_eq_true]
    intro x hx
    obtain ⟨i, hi, rfl⟩ := List.mem_iff_getElem.1 hx
    have hk := h i l[i] b[i] (List.getElem?_eq_getElem (by omega)) (List.getElem?_eq_getElem hi)
    have := h2 l[i] (List.getElem_mem _)
    have e2 : l[i] = 2 := by unfold minOf at e; omega
    have h4 := hk.1
    rw [e2] at h4
    simpa [agrees] using h4
  have hnot : minOf l = 0 → b.all id = false := fun e => by
    unfold minOf at e
    rcases h3 with h3 | h3
    · omega
    · obtain ⟨i, hi, hi2⟩ := List.mem_iff_getElem.1 h3
      have hk := h i l[i] b[i] (List.getElem?_eq_getElem hi) (List.getElem?_eq_getElem (by omega))
      have e2 : l[i] = 0 := by omega
      have h4 := hk.1
      rw [e2] at h4
      rw [List.all_eq_false]
      exact ⟨b[i], List.getElem_mem _, by simpa [agrees] using h4⟩
  have hle : minOf l ≤ 2 := h1
  by_cases e2 : minOf l = 2
  · rw [hall e2, e2]; rfl
  · by_cases e0 : minOf l = 0
    · rw [hnot e0, e0]; rfl
    · simp [agrees, e2, e0, hle]
/-- What is so of the sled. -/
def isT (by_ ws : List Int) (n : Norm) (m a : Nat) : List Bool :=
  [inb n.total.lo n.total.hi (addT by_ + sumW ws m), decide (addT by_ ≤ n.added), coolT by_ n.warm a, inb n.hard.lo n.hard.hi (harT by_), staT by_ || !n.stamp]
theorem te_all (h : bayOk (D.map Prod.fst) = true) (ht : ∀ x ∈ D, TuneOk x.1 x.2) (hD : 0 < D.length) {m a b : Nat} (hm : m ≤ 6) (ha : a ≤ 8) (hb : b ≤ 8) {n : Norm} (hn : normB n = true) :
    ∃ (p : List Int) (W : Int), judgeR (drawB D) (gT D by_ ws m a b) n = ((p, W), 0) ∧ p.length = 5 ∧ (∀ (i : Nat) (k : Int) (x : Bool), p[i]? = some k → (isT by_ ws n m a)[i]? = some x → agrees k x = true ∧ 0 ≤ k ∧ k ≤ 2) ∧ agrees W ((isT by_ ws n m a).all id) = true ∧ 0 ≤ W := by
  obtain ⟨hc, hh⟩ := te_check (ws := ws) (by_ := by_) h ht hD (m := m) (a := a) (b := b) hm ha hb
  obtain ⟨eh, hh1, hh2⟩ := te_hard (D := D) (by_ := by_) (ws := ws) (m := m) ha hb
  have hne : totals (drawB D) (gT D by_ ws m a b) ≠ [] := fun e => by rw [e] at hh; exact has_nil _ hh
  have hj := judge_all hc hn hne (by rw [eh])
  have key : ∀ (i : Nat) (k : Int) (x : Bool), (partsJ (drawB D) (gT D by_ ws m a b) n)[i]? = some k → (isT by_ ws n m a)[i]? = some x → agrees k x = true ∧ 0 ≤ k ∧ k ≤ 2 := by
    intro i k x hk hx
    have a0 := known_agrees (o := n.total) hh
    have a1 := agrees_sure (decide (addT by_ ≤ n.added))
    have a2 : agrees (warmOf (gT D by_ ws m a b) n.warm) (coolT by_ n.warm a) = true := by
      rw [warmOf_told (te_bare ha hb), te_warm ha hb]
      refine agrees_told (fun hcold => ?_) (fun hcool => ?_)
      · unfold coolT
        rw [List.all_eq_true]
        intro d hd
        unfold warmL at hd
        obtain ⟨i, hi, rfl⟩ := List.mem_map.1 hd
        have h1 := List.all_eq_true.1 hcold _ (List.mem_map.2 ⟨i, hi, rfl⟩)
        have h2 := te_warm1 (D := D) (by_ := by_) (ws := ws) i (m := m) (p := a) (b := b)
        simp only [decide_eq_true_eq] at h1 ⊢
        omega
      · obtain ⟨s, hs, hs2⟩ := List.all_eq_false.1 hcool
        obtain ⟨i, hi, rfl⟩ := List.mem_map.1 hs
        have h2 := te_warm1 (D := D) (by_ := by_) (ws := ws) i (m := m) (p := a) (b := b)
        unfold coolT
        rw [List.all_eq_false]
        refine ⟨dT by_ i, List.mem_map.2 ⟨i, hi, rfl⟩, ?_⟩
        simp only [decide_eq_true_eq] at hs2 ⊢
        omega
    have a3 : agrees (knownR [(hard (gT D by_ ws m a b)).1] n.hard) (inb n.hard.lo n.hard.hi (harT by_)) = true := known_agrees ⟨_, List.mem_singleton.2 rfl, by rw [eh]; exact hh1, by rw [eh]; exact hh2⟩
    have a4 := agrees_sure (staT by_ || !n.stamp)
    have r0 := knownR_range (totals (drawB D) (gT D by_ ws m a b)) n.total
    have r1 := sureR_range (decide (addT by_ ≤ n.added))
    have r2 := warmOf_range (gT D by_ ws m a b) n.warm
    have r3 := knownR_range [(hard (gT D by_ ws m a b)).1] n.hard
    have r4 := sureR_range (staT by_ || !n.stamp)
    unfold partsJ at hk
    unfold isT at hx
    match i with
    | 0 => simp only [List.getElem?_cons_zero, Option.some.injEq] at hk hx; subst hk hx; exact ⟨a0, r0⟩
    | 1 => simp only [List.getElem?_cons_zero, List.getElem?_cons_succ, Option.some.injEq] at hk hx; subst hk hx; exact ⟨a1, r1⟩
    | 2 => simp only [List.getElem?_cons_zero, List.getElem?_cons_succ, Option.some.injEq] at hk hx; subst hk hx; exact ⟨a2, r2⟩
    | 3 => simp only [List.getElem?_cons_zero, List.getElem?_cons_succ, Option.some.injEq] at hk hx; subst hk hx; exact ⟨a3, r3⟩
    | 4 => simp only [List.getElem?_cons_zero, List.getElem?_cons_succ, Option.some.injEq] at hk hx; subst hk hx; exact ⟨a4, r4⟩
    | i + 5 => simp at hk
  obtain ⟨w1, w2⟩ := agrees_whole (l := partsJ (drawB D) (gT D by_ ws m a b) n) (b := isT by_ ws n m a) rfl key
  exact ⟨_, _, hj, rfl, key, w1, w2⟩
/-- What a drawn scale shows for a weight is told. -/
theorem te_reads {s : Kr.Scale} {t : Int × Int} (hr : right s = true) (ht : TuneOk s t) {w : Int} (hw : 0 ≤ w ∧ w ≤ 1000000) :
    reads (drawS t s) w = (readsOf s.step w (tunes (drawS t s)), 0) ∧ (readsOf s.step w (tunes (drawS t s))).lo ≤ readAt s.step w t.1 t.2 ∧ readAt s.step w t.1 t.2 ≤ (readsOf s.step w (tunes (drawS t s))).hi := by
  have h1 := drawS_right hr ht
  have h2 := drawS_true hr ht
  have h3 := reads_true h1 (w := w) h2
  have hne : tunes (drawS t s) ≠ [] := fun e => by
    rw [trueB_iff] at h2
    have := (mem_tunes (s := drawS t s) (t := ⟨t.1, offs (drawS t s) t.1⟩)).2 ⟨h2.1, rfl, by dsimp only; omega⟩
    rw [e] at this
    cases this
  refine ⟨?_, h3⟩
  unfold reads
  rw [if_pos h1, if_pos (by simp [inb]; omega), if_neg hne]
  rfl
end
end Go.Proofs.YtfjkiemjmnnbkaaGreatDoor

/-
  The sled under way in ScaleTrue: its box and rows; the errors that are drawn.
-/
namespace Go.Proofs.YtfjkiemjmnnbkaaGreatDoor
open Go.RowKit Kr
set_option linter.unusedSimpArgs false

set_option maxHeartbeats 1000000 in
theorem l04_err_any (by_ : List Int) (bv : Value) (i : Nat) (j most : Int) (p : Nat) (w : World) (hby : IsRow (fun x : Int => [.int .u32 x]) 1 w bv by_) (hbb : ∀ x ∈ by_, 0 ≤ x ∧ x ≤ 4294967295) (hi : i ≤ 1000) (hj : j = (i : Int)) (hm : 0 ≤ most ∧ most ≤ 1000) (hc : w.cell? ⟨p, 0, none⟩ = some bv) :
    Calls Tryz.prog 28 #[.int .i64 j, .int .i64 most, .pointer (some ⟨p, 0, none⟩)] w fun e w' => e = .returned (.int .i64 (errT by_ i most)) ∧ w.Exts w' := by
  subst hj
  obtain ⟨q, c, rfl⟩ := hby.len
  have hch := chooseL_bd hbb i
  have hb := errT_bd (by_ := by_) i hm.1
  have e1 : (chooseL by_ i).tmod (2 * most + 1) = chooseL by_ i % (2 * most + 1) := Int.tmod_eq_emod_of_nonneg hch.1
  have e0 : (2 * most + 1 == 0) = false := beq_eq_false_iff_ne.2 (by omega)
  have e2 : IntKind.i64.wrap (chooseL by_ i % (2 * most + 1) - most) = errT by_ i most := by unfold errT at hb ⊢; exact IntWalk.i64_in _ (by omega)
  have a1 : IntKind.i64.wrap (2 * most) = 2 * most := IntWalk.i64_in _ (by omega)
  have a2 : IntKind.i64.wrap (2 * most + 1) = 2 * most + 1 := IntWalk.i64_in _ (by omega)
  have hl := Lays.of_cell hc
  have HBY := Lib.hid hby
  clear hby
  have HBB := Lib.hid hbb
  clear hbb
  go_enter Tryz.func28, Tryz.ntmps28
  go_wp2_with (go_at_call 25; refine (l04_choose_at by_ _ i _ _ (HBY.out.mono exq) HBB.out (by omega) rfl).mono ?_; rintro e w' ⟨rfl, X1, rfl⟩)
  go_ret
  exact ⟨rfl, exq⟩

/-- The sled's box. -/
def teB (by_ : List Int) (pp : Nat) (v r s : Value) (bas : Int) : List BoxD := [⟨pp, 50, [v, .int .i64 (addT by_), .int .i64 bas, .int .i64 (jitT by_), r, s, .int .i64 (sprT by_), .bool (staT by_)]⟩]
/-- Its loads, runners, strokes; what is warmer. -/
def teR (D : Drawn) (by_ ws : List Int) (v r s u : Value) (m a b : Nat) : List RowD :=
  [⟨63, 2, v, m, (ldT D by_ ws m).flatMap loadEnc⟩, ⟨3, 1, r, a, intCs (runL by_ a)⟩, ⟨3, 1, s, b, intCs (strL by_ b)⟩, ⟨3, 1, u, a, intCs (warmL by_ a)⟩]
theorem te_start {A V : World} {by_ ws : List Int} {D : Drawn} {pp : Nat} (hE : A.Exts V) (hpp : A.heap.size ≤ pp) (hb : LaysAs V pp (.cells [.slice none 0 0, .int .i64 (addT by_), .int .i64 0, .int .i64 (jitT by_), .slice none 0 0, .slice none 0 0, .int .i64 (sprT by_), .bool (staT by_)].toArray 50 (0, 0))) :
    FrAt A V V.heap.size (teB by_ pp (.slice none 0 0) (.slice none 0 0) (.slice none 0 0) 0) (teR D by_ ws (.slice none 0 0) (.slice none 0 0) (.slice none 0 0) (.slice none 0 0) 0 0 0) := by
  refine ⟨hE, hE.size, fun b hb' => ?_, ?_, fun r hr => ?_, ?_, Nat.le_refl _⟩
  · unfold teB at hb'
    rw [List.mem_singleton.1 hb']
    exact ⟨hb, hpp, hb.lt⟩
  · unfold teB; exact List.pairwise_singleton _ _
  · unfold teR at hr
    simp only [List.mem_cons, List.not_mem_nil, or_false] at hr
    rcases hr with rfl | rfl | rfl | rfl <;> exact World.ownsRow_nil _ _ _ _
  · unfold teR
    simp only [List.pairwise_cons, List.mem_cons, List.not_mem_nil, or_false, forall_eq_or_imp, forall_eq, Apart.none, and_self, List.Pairwise.nil, false_imp_iff, implies_true]
    exact ⟨Apart.none _, Apart.none _, Apart.none _, trivial⟩
/-- What a region's four steps yield: a value, another one, a slice of it, the longer slice. -/
def appTab (ci cb cs ca : Nat) (v1 v2 : Value) (t : TypeId) (lit : List Value) (size n : Nat) (cells : List Value) : Nat → Kd := fun c =>
  if c = ci then .val v1 else if c = cb then .val v2 else if c = cs then .lit t lit else if c = ca then .app t size n cells else .any
theorem appTab_one {ci cb cs ca : Nat} {v1 v2 : Value} {t : TypeId} {lit : List Value} {size n : Nat} {cells : List Value} : ∀ c t' s' n' cs', appTab ci cb cs ca v1 v2 t lit size n cells c = .app t' s' n' cs' → c = ca := by
  intro c t' s' n' cs' h
  unfold appTab at h
  split at h
  · cases h
  · split at h
    · cases h
    · split at h
      · cases h
      · split at h
        · assumption
        · cases h
theorem gives_sum {o : Oper} {ρ : Operand → Value} {W : World} {R : Value → World → Prop} {x y : Operand} {a b : Int} (ho : o.op = .binOp .add 3 x y 3) (hx : ρ x = .int .i64 a) (hy : ρ y = .int .i64 b) (h : R (.int .i64 (IntKind.i64.wrap (a + b))) W) : o.givesI Tryz.prog ρ W R := by
  refine .inl (.inr ⟨_, _, ?_, h⟩)
  unfold execOp
  simp only [ho, hx, hy]
  kernel_rfl
theorem te_gear {D : Drawn} (h : bayOk (D.map Prod.fst) = true) (hD : 0 < D.length) {A W : World} {B : Nat} {bx : List BoxD} {by_ ws : List Int} {v r s u : Value} {m a b : Nat} (ha : a ≤ 8) (hb : b ≤ 8) (hF : FrAt A W B bx (teR D by_ ws v r s u m a b)) : GearAt W (gT D by_ ws m a b, v, r, s) := by
  refine ⟨?_, ?_, ?_, ⟨by simp only [gT, runL_len]; omega, by simp only [gT, strL_len]; omega⟩, fun l hl => ?_⟩
  · exact IsRow.of_owns (by have := hF.row 0 rfl; rw [show (gT D by_ ws m a b).loads = ldT D by_ ws m from rfl, ldT_len]; exact this) (fun _ _ => rfl)
  · exact IsRow.of_owns (enc := fun x : Int => [.int .i64 x]) (by have := hF.row 1 rfl; rw [show (gT D by_ ws m a b).runners = runL by_ a from rfl, runL_len]; exact this) (fun _ _ => rfl)
  · exact IsRow.of_owns (enc := fun x : Int => [.int .i64 x]) (by have := hF.row 2 rfl; rw [show (gT D by_ ws m a b).strokes = strL by_ b from rfl, strL_len]; exact this) (fun _ _ => rfl)
  · obtain ⟨p, hp, rfl⟩ := List.mem_map.1 (show l ∈ ldT D by_ ws m from hl)
    obtain ⟨y, hy⟩ := some_of_lt (te_ps (ws := ws) (by_ := by_) hD p hp).1
    have hb := right_bounds (bayOk_right h y.1 (List.mem_map.2 ⟨y, List.mem_of_getElem? hy, rfl⟩))
    have e : (loadBy D p).scale = y.1.id := by unfold loadBy; rw [hy]
    rw [e]
    have := hb.1
    have h1 : IntKind.i64.min = -9223372036854775808 := by decide
    have h2 : IntKind.i64.max = 9223372036854775807 := by decide
    simp [Lit.wf]
    omega
theorem row_bools (w : World) (a b c d e : Bool) (n : Nat) (hn : n = w.heap.size) : IsRow (fun x : Bool => [Value.bool x]) 1 (w.alloc (.cells #[.bool a, .bool b, .bool c, .bool d, .bool e] 4)) (.slice (some ⟨n, 0, none⟩) 5 5) [a, b, c, d, e] := by
  have h : BlkAt (w.alloc (.cells ([.bool a, .bool b, .bool c, .bool d, .bool e] : List Value).toArray 4)) n (([a, b, c, d, e] : List Bool).flatMap fun x => [.bool x]) := BlkAt.new w _ _ hn
  exact IsRow.of_blk (enc := fun x : Bool => [.bool x]) (k := 1) (xs := [a, b, c, d, e]) (fun _ => rfl) h ⟨by subst hn; simp⟩ (by simp)
theorem row_part {α : Type} {enc : α → List Value} {k : Nat} {w : World} {b o j : Nat} {x : α} (hlay : Lays w b) (hcs : ∀ m u, (enc x)[m]? = some u → w.cell? ⟨b, o + j * k + m, none⟩ = some u) (c : Nat) (hc : 1 ≤ c ∧ c ≤ 9223372036854775807) :
    IsRow enc k w (.slice (some ⟨b, o + j * k, none⟩) 1 c) [x] :=
  ⟨_, b, o + j * k, c, rfl, hc, fun _ => ⟨rfl, hlay⟩, fun i y hy m u hu => by
    match i, hy with
    | 0, hy =>
      simp at hy; subst hy
      rw [Nat.zero_mul, Nat.add_zero]
      exact hcs m u hu⟩
/-- What is known of the last drawn region's blocks and calls: two slices of one span, what is in them. -/
def TeTab (a c : Span) (x y : Bool) (i : Nat) (W : World) (v : Value) : Prop :=
  (i = 2 → ∃ q k, v = .slice q 1 k ∧ IsRow (fun t : Kr.Span => [.int .i64 t.lo, .int .i64 t.hi]) 2 W v [a]) ∧ (i = 4 → v = .bool x) ∧ (i = 13 → ∃ q k, v = .slice q 1 k ∧ IsRow (fun t : Kr.Span => [.int .i64 t.lo, .int .i64 t.hi]) 2 W v [c]) ∧ (i = 15 → v = .bool y)
theorem TeTab.mono {a c : Span} {x y : Bool} {i : Nat} {W W' : World} {v : Value} (p : TeTab a c x y i W v) (hE : W.Exts W') : TeTab a c x y i W' v :=
  ⟨fun e => by obtain ⟨q, k, h1, h2⟩ := p.1 e; exact ⟨q, k, h1, h2.mono hE⟩, p.2.1, fun e => by obtain ⟨q, k, h1, h2⟩ := p.2.2.1 e; exact ⟨q, k, h1, h2.mono hE⟩, p.2.2.2⟩
/-- What stays while row j, now x, grows. -/
def teG (A : World) (B : Nat) (D : Drawn) (by_ ws : List Int) (pp : Nat) (v r s u : Value) (bas : Int) (m a b j : Nat) (x : Value) : World → Prop := FrG A B (teB by_ pp v r s bas) ((teR D by_ ws v r s u m a b).eraseIdx j) x
theorem teG_cell {A : World} {B : Nat} {D : Drawn} {by_ ws : List Int} {pp : Nat} {v r s u x : Value} {bas : Int} {m a b j : Nat} (Y : GW (teG A B D by_ ws pp v r s u bas m a b j x)) (i : Nat) (c : Value) (hi : [v, .int .i64 (addT by_), .int .i64 bas, .int .i64 (jitT by_), r, s, .int .i64 (sprT by_), .bool (staT by_)][i]? = some c) : Y.w.cell? ⟨pp, i, none⟩ = some c :=
  LaysAs.cell (Y.h.fr.box 0 rfl) i _ hi
theorem FrInv.done {A W W' : World} {B t size n ci cb cl ca len : Nat} {bx : List BoxD} {os : List RowD} {x v' v1 v2 : Value} {cs news lit : List Value} {listed : Array Bool} {U : Nat → Bool} {ν : Nat → Value} (h : FrInv A B bx os ⟨t, size, x, n, cs⟩ ca listed W) (hun : listed.getD ca true = false) (hown : W'.ownsRow B t size v' (n + 1) (cs ++ news)) (happ : AppendedW W W' x v' B) (hsz : ca < listed.size) (h1 : ca ≠ ci) (h2 : ca ≠ cb) (h3 : ca ≠ cl) :
    FrInv A B bx os ⟨t, size, x, n, cs⟩ ca (listed.setIfInBounds ca true) W' ∧ FrPhi B os x (appTab ci cb cl ca v1 v2 t lit size (n + 1) (cs ++ news)) ca v' W' ∧ ∀ c', c' < len → U c' = true → listed.getD c' true = true → FrPhi B os x (appTab ci cb cl ca v1 v2 t lit size (n + 1) (cs ++ news)) c' (ν c') W → FrPhi B os x (appTab ci cb cl ca v1 v2 t lit size (n + 1) (cs ++ news)) c' (ν c') W' := by
  obtain ⟨k1, k2, k3⟩ := FrInv.appended (tab := appTab ci cb cl ca v1 v2 t lit size (n + 1) (cs ++ news)) h hun hown happ hsz (by unfold appTab; rw [if_neg h1, if_neg h2, if_neg h3, if_pos rfl]) appTab_one
  exact ⟨k1, k2, fun c' _ _ hl h => k3 c' _ hl h⟩
theorem warmL_get {by_ : List Int} {a j : Nat} (h : j < a) : (warmL by_ a)[j]? = some (dT by_ j) := by simp [warmL, h]
theorem all_snoc (l : List Bool) {j : Nat} {x : Bool} (h : l[j]? = some x) : (l.take (j + 1)).all id = ((l.take j).all id && x) := by rw [take_snoc h, List.all_append]; simp
end Go.Proofs.YtfjkiemjmnnbkaaGreatDoor
