/-
  Several texts in one: see the heads of its parts.
-/
import Derived.Test.YtkgchngaganokaaGreatDoorIr
import Derived.Test.YtkgchngaganokaaGreatDoorIgK
import Derived.Test.YtkgchngaganokaaGreatDoorGRq
import Derived.BigRegion
import Derived.Shelf.RegionOpen

/-
  Walks of package ice: the iterator over how thick a stretch is.
-/
namespace Go.Proofs.YtkgchngaganokaaGreatDoor
open Go.RowKit Go.Shelf Kr
set_option linter.unusedSimpArgs false
set_option linter.unusedVariables false

theorem abidesT_exts {β : Type} {T : TypeId} {B : Nat} {J : β → World → Prop} (h : AbidesT T B J) {s : β} {A W : World} (hJ : J s A) (hE : A.Exts W) : J s W := by
  have hb := hE.below
  exact h s A W none hJ ⟨hb.os, hb.tape, hb.output, hb.size, fun k hk _ => hb.block k hk⟩ (fun r e => by cases e)
theorem grownBy_put (W : World) (b i : Nat) (v : Value) : W.grownBy (W.setCell ⟨b, i, none⟩ v) (some b) :=
  ⟨rfl, rfl, rfl, by simp, fun k _ hk => World.heap_set_other _ _ _ (fun e => hk (by rw [e]))⟩
theorem abidesT_set {β : Type} {T : TypeId} {B b i : Nat} {J : β → World → Prop} (h : AbidesT T B J) {s : β} {W : World} {cs : Array Value} {fr : Nat × Nat} (hJ : J s W) (hl : LaysAs W b (.cells cs T fr)) (hb : B ≤ b) (v : Value) : J s (W.setCell ⟨b, i, none⟩ v) :=
  h s W _ (some b) hJ (grownBy_put W b i v) (fun r e => by cases e; exact ⟨hb, _, hl, .inr ⟨_, _, rfl⟩⟩)
theorem abidesT_put2 {β : Type} {T : TypeId} {B b : Nat} {J : β → World → Prop} (h : AbidesT T B J) {s : β} {W : World} {u0 u1 v0 v1 : Value} (hJ : J s W) (hl : LaysAs W b (.cells [u0, u1].toArray T (0, 0))) (hb : B ≤ b) : J s ((W.setCell ⟨b, 0, none⟩ v0).setCell ⟨b, 1, none⟩ v1) :=
  abidesT_set h (abidesT_set h hJ hl hb v0) (LaysAs.set (cs := [u0, u1]) hl (i := 0) v0) hb v1

/-- What a round over the hours keeps: all that lies in u, and all cells but one block and but cells of type T0. -/
def KeepsT (u : World) (f : Nat) (T0 : TypeId) (W W' : World) : Prop := Below u.heap.size W W' ∧ ∀ k cs t fr, k ≠ f → t ≠ T0 → W.heap[k]? = some (.cells cs t fr) → W'.heap[k]? = some (.cells cs t fr)
theorem KeepsT.trans {u : World} {f : Nat} {T0 : TypeId} {A B C : World} (h : KeepsT u f T0 A B) (k : KeepsT u f T0 B C) : KeepsT u f T0 A C := ⟨h.1.trans k.1, fun j cs t fr h1 h2 h3 => k.2 j cs t fr h1 h2 (h.2 j cs t fr h1 h2 h3)⟩
theorem KeepsT.of_exts {u : World} {f : Nat} {T0 : TypeId} {W W' : World} (hu : u.heap.size ≤ W.heap.size) (h : W.Exts W') : KeepsT u f T0 W W' := ⟨h.below.mono hu, fun k cs t fr _ _ h3 => (h.below.block k (Array.getElem?_eq_some_iff.1 h3).1).trans h3⟩
theorem KeepsT.put {u : World} {f : Nat} {T0 : TypeId} (W : World) (l : Nat) (o o' : Obj) (hl : u.heap.size ≤ l) (ho : W.heap[l]? = some o) (h1 : o.isCells = false) : KeepsT u f T0 W (W.putObj l o') :=
  ⟨⟨rfl, rfl, rfl, by simp, fun k hk => World.putObj_heap_other (by omega)⟩, fun k cs t fr _ _ h3 => (World.putObj_heap_other (fun e => by subst e; rw [ho] at h3; cases h3; cases h1)).trans h3⟩
theorem KeepsT.lays {u : World} {f b : Nat} {T0 t : TypeId} {W W' : World} {cs : Array Value} {fr : Nat × Nat} (h : KeepsT u f T0 W W') (hl : LaysAs W b (.cells cs t fr)) (hf : b ≠ f) (ht : t ≠ T0) : LaysAs W' b (.cells cs t fr) := h.2 b cs t fr hf ht hl

theorem laysAs_put_other {W : World} {b b5 : Nat} {ob : Obj} (h : LaysAs W b ob) (hne : b ≠ b5) (v0 v1 : Value) : LaysAs ((W.setCell ⟨b5, 0, none⟩ v0).setCell ⟨b5, 1, none⟩ v1) b ob := by
  unfold LaysAs at *
  rw [World.heap_set_other _ _ _ hne, World.heap_set_other _ _ _ hne]
  exact h
theorem lays_apart {W : World} {b b' : Nat} {cs ds : Array Value} {t t' : TypeId} (h : LaysAs W b (.cells cs t (0, 0))) (h' : LaysAs W b' (.cells ds t' (0, 0))) (ht : t ≠ t') : b ≠ b' := fun e => by
  subst e
  unfold LaysAs at h h'
  rw [h] at h'
  cases h'
  exact ht rfl
/-- An hour of a cover, its end among them. -/
abbrev HourB (c : Kr.Cover) := { h : Nat // h ≤ c.hours.length }
def encD (c : Kr.Cover) (plan : List (List Int)) (i : Nat) (x : HourB c) : Array Value := #[.int .i64 (x.1 : Int), .agg #[.int .i64 (thickAt c plan i x.1).lo, .int .i64 (thickAt c plan i x.1).hi]]

attribute [local go_sem] Oper.semAt_some
end Go.Proofs.YtkgchngaganokaaGreatDoor

/-
  Walks of package ice: Thick: a range over the iterator that is left by a break.
-/
namespace Go.Proofs.YtkgchngaganokaaGreatDoor
open Go.RowKit Go.Shelf Kr
set_option linter.unusedSimpArgs false
set_option linter.unusedVariables false

attribute [local go_sem] Oper.semAt_some

theorem below_grown {V W W' : World} {row : Option Nat} (h : Below V.heap.size V W) (hg : W.grownBy W' row) (hr : ∀ r, row = some r → V.heap.size ≤ r) : Below V.heap.size V W' :=
  h.trans ⟨hg.os, hg.tape, hg.output, hg.size, fun k hk => hg.block k (Nat.lt_of_lt_of_le hk h.size) (fun e => by have := hr k e.symm; omega)⟩
theorem block_grown {B f : Nat} {W W' : World} {row : Option Nat} {o : Obj} (h : W.heap[f]? = some o) (hf : f < B) (hg : W.grownBy W' row) (hr : ∀ r, row = some r → B ≤ r) : W'.heap[f]? = some o :=
  (hg.block f (Array.getElem?_eq_some_iff.1 h).1 (fun e => by have := hr f e.symm; omega)).trans h

/-- The same law, for two loop variables, the second in a box of its own. -/
theorem wpIn_range_turns2 {α : Type} {n : Nat} {P : Program} {g : Operand} {p1 p2 : Tmp} {assign body : Code} {Q : Exit → Act → World → Prop} {a : Act} {w : World} (T : TypeId) (h1 : 1 ≤ n) {gf : Nat} {lb : Array Value} (hg : a.eval g = .func (.func gf) #[] lb) (eg : ∀ args w, (callFunc gf args).run P w = .ok (.enter gf args) w)
    {encs : α → Array Value} {e1 e2 : α → Value} (henc : ∀ x, encs x = #[e1 x, e2 x]) {Kp : World → World → Prop} {S Sp : List α → Prop} {N : Nat} (hseq : SeqStopsT T Fence.wide (n - 1) P gf lb encs Kp S Sp N w)
    (hKt : ∀ {A B C : World}, Kp A B → Kp B C → Kp A C) (hKb : ∀ (W : World) (l : Nat) (o o' : Obj), w.heap.size ≤ l → W.heap[l]? = some o → o.isCells = false → o.isWalk = false → Kp W (W.putObj l o'))
    (I : List α → World → Prop) (Ix : Code → List α → World → Prop) (hI : OwnT T w.heap.size I) (hIx : ∀ c, OwnT T w.heap.size (Ix c)) (h0 : I [] w) (d bx : Nat) (cs : α → List Value)
    (hassign : ∀ (l : Nat) (pre : List α) (x : α) (W : World) (K : Act → World → Prop), I pre W → (∀ Bx W', KeepsFrom w.heap.size W W' → Kp W W' → I pre W' → w.heap.size ≤ Bx → W'.heap[Bx]? = some (.cells (cs x).toArray T (0, 0)) → K (Act.put (Act.put { tmps := (a.tmps.setIfInBounds p1 (e1 x)).setIfInBounds p2 (e2 x), defers := [] } (some d) (e1 x)) (some bx) (.pointer (some ⟨Bx, 0, none⟩))) W') →
      assign.wpIn (Fence.wide.inRound l) (n - 1 - 1) P (Exit.then K (fun _ _ _ => False)) { tmps := (a.tmps.setIfInBounds p1 (e1 x)).setIfInBounds p2 (e2 x), defers := [] } W)
    (hbody : ∀ (l : Nat) (pre : List α) (x : α) (Bx : Nat) (W : World), w.heap.size ≤ l → I pre W → w.heap.size ≤ Bx → W.heap[Bx]? = some (.cells (cs x).toArray T (0, 0)) → pre.length < N →
      body.wpIn (Fence.wide.inRound l) (n - 1 - 1) P (ownPostG w.heap.size Kp I Ix (pre ++ [x]) W) (Act.put (Act.put { tmps := (a.tmps.setIfInBounds p1 (e1 x)).setIfInBounds p2 (e2 x), defers := [] } (some d) (e1 x)) (some bx) (.pointer (some ⟨Bx, 0, none⟩))) W)
    (hdone : ∀ (D : Nat) (xs : List α) (W : World), w.heap.size ≤ D → S xs → I xs W → W.heap[D]? = some (.deferred (some [])) → Q .normal { a with defers := { target := .collected D, args := #[] } :: a.defers } W)
    (hstop : ∀ (D : Nat) (c : Code) (pre : List α) (W : World), w.heap.size ≤ D → Sp pre → Ix c pre W → W.heap[D]? = some (.deferred (some [])) → c.wpIn Fence.wide n P Q { a with defers := { target := .collected D, args := #[] } :: a.defers } W) :
    (Code.rangeFunc g #[p1, p2] assign body).wpIn Fence.wide n P Q a w := by
  have hz : ∀ (x : α) (t : Array Value), ((#[p1, p2] : Array Tmp).zip (encs x)).foldl (fun t (p, v) => t.setIfInBounds p v) t = (t.setIfInBounds p1 (e1 x)).setIfInBounds p2 (e2 x) := fun x t => by rw [henc]; simp
  refine wpIn_range_turns T rfl h1 hg trivial eg hseq (fun x => by rw [henc]; rfl) hKt hKb I Ix hI hIx h0
    (fun x a' W => ∃ Bx, w.heap.size ≤ Bx ∧ W.heap[Bx]? = some (.cells (cs x).toArray T (0, 0)) ∧ a' = Act.put (Act.put { tmps := (a.tmps.setIfInBounds p1 (e1 x)).setIfInBounds p2 (e2 x), defers := [] } (some d) (e1 x)) (some bx) (.pointer (some ⟨Bx, 0, none⟩)))
    ?hAx (fun l pre x W K hi hK => by rw [hz]; exact hassign l pre x W K hi fun Bx W' h1 h2 h3 h4 h5 => hK _ _ h1 h2 h3 ⟨Bx, h4, h5, rfl⟩) ?_ hdone hstop
  case hAx =>
    rintro x a' _ W W' row ⟨Bx, h1, h2, h3⟩ hg hr
    exact ⟨Bx, h1, (hg.block Bx (Array.getElem?_eq_some_iff.1 h2).1 (fun e => by obtain ⟨_, o, ho, hc⟩ := hr Bx e.symm; rw [h2] at ho; cases ho; cases hc)).trans h2, h3⟩
  rintro l pre x a' W hl hi ⟨Bx, h1, h2, rfl⟩ hlen
  exact hbody l pre x Bx W hl hi h1 h2 hlen

end Go.Proofs.YtkgchngaganokaaGreatDoor
