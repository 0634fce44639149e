/-
  Several texts in one: see the heads of its parts.
-/

import Derived.Test.YtcickafaomfbmaaGreatDoorZSBksBs
import Derived.Shelf.Abstract
/-
  A region that draws its order, in which ONE block is made (a struct variable), at whatever time, among operations that read and calls whose callees leave an extension of the world; behind them a forced tail. One walk in the text's order, the new block's number a variable.
-/
namespace Go
open Go.RowKit

/-- A world that extends w, in a class. -/
structure ExtT (w : World) (T : World → Prop) where
  to : Ext w
  ok : T to.to
/-- A class of worlds that whatever extends one of its worlds belongs to. -/
def UpT (w : World) (T : World → Prop) : Prop := (∀ W W', T W → W.Exts W' → T W') ∧ Nonempty (ExtT w T)
theorem upT_all (w : World) : UpT w (fun _ => True) := ⟨fun _ _ h _ => h, ⟨⟨⟨w, Below.refl _ _⟩, trivial⟩⟩⟩
theorem upT_exts {w W : World} (h : w.Exts W) : UpT w (fun W' => W.Exts W') := by
  refine ⟨fun _ _ h1 h2 => h1.trans h2, ?_⟩
  obtain ⟨X, hX⟩ := h
  exact ⟨⟨X, by show W.Exts (w.ext X); rw [← hX]; exact World.Exts.refl W⟩⟩

theorem Calls.in_extT {P : Program} {f : FuncId} {args : Array Value} {w : World} {T : World → Prop} (hT : UpT w T) {X : ExtT w T} {v : Value}
    (h : Calls P f args (w.ext X.to) fun e w' => e = .returned v ∧ (w.ext X.to).Exts w') : Calls P f args (w.ext X.to) fun e w'' => e = .returned v ∧ ∃ Y : ExtT w T, w'' = w.ext Y.to :=
  h.mono fun _ w' ⟨he, hw⟩ => ⟨he, ⟨⟨w', X.to.le.trans (hw.below.mono X.to.le.size)⟩, hT.1 _ _ X.ok hw⟩, rfl⟩
theorem Calls.in_extT_eq {P : Program} {f : FuncId} {args : Array Value} {w : World} {T : World → Prop} (hT : UpT w T) {X : ExtT w T} {v v' : Value}
    (h : Calls P f args (w.ext X.to) fun e w' => e = .returned v ∧ (w.ext X.to).Exts w') (hv : v = v') : Calls P f args (w.ext X.to) fun e w'' => e = .returned v' ∧ ∃ Y : ExtT w T, w'' = w.ext Y.to :=
  hv ▸ Calls.in_extT hT h

/-- The operation that makes the block, as if the block's number were known. -/
def mvOp (oa : Oper) (p : Nat) : Oper := { oa with op := .move (.const (.pointer (some ⟨p, 0, none⟩))) }

/-- No two operations write one temporary. -/
def Region.dstsB (l : List Oper) : Bool := (List.range l.length).all fun i => (List.range i).all fun j => decide ((l[i]?).bind (·.dst) = none) || decide ((l[i]?).bind (·.dst) ≠ (l[j]?).bind (·.dst))
theorem dstsB_spec {l : List Oper} (h : Region.dstsB l = true) {i j : Nat} {oi oj : Oper} {d : Nat} (hi : l[i]? = some oi) (hj : l[j]? = some oj) (di : oi.dst = some d) (dj : oj.dst = some d) : i = j := by
  have key : ∀ (i j : Nat) (oi oj : Oper), l[i]? = some oi → l[j]? = some oj → oi.dst = some d → oj.dst = some d → ¬ j < i := by
    intro i j oi oj hi hj di dj hlt
    have h1 := List.all_eq_true.1 (List.all_eq_true.1 h i (List.mem_range.2 (lt_of_some' hi))) j (List.mem_range.2 hlt)
    rw [hi, hj] at h1
    simp [di, dj] at h1
  rcases Nat.lt_trichotomy i j with h1 | h1 | h1
  · exact absurd h1 (key j i oj oi hj hi dj di)
  · exact h1
  · exact absurd h1 (key i j oi oj hi hj di dj)
where lt_of_some' {l : List Oper} {i : Nat} {o : Oper} (h : l[i]? = some o) : i < l.length := (List.getElem?_eq_some_iff.1 h).1

theorem getD_set_same {listed : Array Bool} {i : Nat} (d : Bool) (h : i < listed.size) : (listed.setIfInBounds i true).getD i d = true := by
  rw [Array.getD_eq_getD_getElem?, Array.getElem?_setIfInBounds_self, if_pos h]; rfl
theorem getD_replicate_lt {m i : Nat} (h : i < m) : (Array.replicate m false).getD i true = false := by
  rw [Array.getD_eq_getD_getElem?, Array.getElem?_replicate, if_pos h]; rfl
theorem put_other {a : Act} {dst : Option Tmp} {v : Value} {d : Nat} (h : dst ≠ some d) : (a.put dst v).tmps[d]? = a.tmps[d]? := by
  cases dst with
  | none => rfl
  | some d' => simp only [Act.put]; rw [Array.getElem?_setIfInBounds_ne (fun e => h (by rw [e]))]
theorem put_same {a : Act} {v : Value} {d : Nat} : (a.put (some d) v).tmps[d]? = if d < a.tmps.size then some v else none := by
  simp only [Act.put]
  rw [Array.getElem?_setIfInBounds_self]
theorem put_eq {a : Act} {dst : Option Tmp} {v v' : Value} (h : ∀ d, dst = some d → (a.put dst v).tmps[d]? = (a.put dst v').tmps[d]?) : a.put dst v = a.put dst v' := by
  cases dst with
  | none => rfl
  | some d =>
    have h := h d rfl
    rw [put_same, put_same] at h
    by_cases hd : d < a.tmps.size
    · rw [if_pos hd, if_pos hd] at h; cases h; rfl
    · simp only [Act.put]
      rw [Array.setIfInBounds_eq_of_size_le (Nat.le_of_not_lt hd), Array.setIfInBounds_eq_of_size_le (Nat.le_of_not_lt hd)]

section
variable {P : Program} {md : Region.Mode} {ops : Array Oper} {C : World → Prop} {n : Nat} {L : Array Bool → Act → Prop} {A : Act}
/-- What a temporary holds that no later operation writes it holds at the end. -/
theorem HeadAny.val (hL : ∀ listed a, L listed a → a = A) : ∀ (f : Nat) (listed : Array Bool) (a : Act) (d : Nat), (∀ j oj, ops[j]? = some oj → listed.getD j true = false → oj.dst ≠ some d) →
    HeadAny P md ops C n L f listed a → a.tmps[d]? = A.tmps[d]?
  | 0, _, _, _, _, h => by rw [hL _ _ h]
  | f + 1, listed, a, d, hd, h => by
    obtain ⟨i, hi⟩ := List.exists_mem_of_ne_nil _ h.1
    obtain ⟨hun, o, ho, _⟩ := mem_ready.1 hi
    obtain ⟨v, _, hK⟩ := yieldsIn_of_qOp ho (h.2 i hi).2
    have := HeadAny.val hL f _ _ d (fun j oj hj hl => by
      refine hd j oj hj ?_
      by_cases hij : i = j
      · subst hij; exact hun
      · rwa [getD_set_ne true hij] at hl) hK
    rw [← this, put_other (hd i o ho hun)]
end

section
variable {P : Program} {md : Region.Mode} {l : List Oper} {ai n : Nat} {oa : Oper} {o : Obj} {w : World} {A : Nat → Act} {Q : Exit → Act → World → Prop} {g : Nat}

theorem set_get (hoa : l[ai]? = some oa) (p j : Nat) : (l.set ai (mvOp oa p))[j]? = if j = ai then some (mvOp oa p) else l[j]? := by
  have hlt : ai < l.length := (List.getElem?_eq_some_iff.1 hoa).1
  rw [List.getElem?_set]
  by_cases h : ai = j
  · subst h; simp [hlt]
  · rw [if_neg h, if_neg (Ne.symm h)]
theorem set_map {β : Type} (φ : Oper → β) (hφ : ∀ p, φ (mvOp oa p) = φ oa) (hoa : l[ai]? = some oa) (p j : Nat) : ((l.set ai (mvOp oa p)).toArray[j]?).map φ = (l.toArray[j]?).map φ := by
  simp only [List.getElem?_toArray]
  rw [set_get hoa]
  by_cases h : j = ai
  · subst h; rw [if_pos rfl, hoa, Option.map_some, Option.map_some, hφ]
  · rw [if_neg h]
theorem ready_set (hoa : l[ai]? = some oa) (p : Nat) (listed : Array Bool) : Region.ready md (l.set ai (mvOp oa p)).toArray listed = Region.ready md l.toArray listed := by
  unfold Region.ready
  simp only [List.size_toArray, List.length_set]
  congr 1
  funext i
  rw [set_map (fun o => o.after.all fun e => !Region.binds md e || listed.getD e.on false) (fun _ => rfl) hoa]
theorem yielded_set (hoa : l[ai]? = some oa) (p : Nat) (tmps : Array Value) : yielded (l.set ai (mvOp oa p)).toArray tmps = yielded l.toArray tmps := by
  funext j
  unfold yielded
  have h := set_map (fun o => o.dst) (fun _ => rfl) hoa p j
  have e : ∀ x : Option Oper, x.bind (·.dst) = (x.map (·.dst)).join := fun x => by cases x <;> rfl
  rw [e, e, h]
theorem seqB_set (hoa : l[ai]? = some oa) (p : Nat) : ∀ (g k : Nat) (listed : Array Bool), Region.seqB md (l.set ai (mvOp oa p)).toArray g k listed = Region.seqB md l.toArray g k listed
  | 0, _, _ => by simp only [Region.seqB, ready_set hoa]
  | g + 1, k, listed => by simp only [Region.seqB, ready_set hoa, seqB_set hoa p g]

/-- What the walk has shown, at each class of worlds: whatever order the head's operations come up in. -/
abbrev HeadT (P : Program) (md : Region.Mode) (l : List Oper) (ai n : Nat) (oa : Oper) (w : World) (A : Nat → Act) (g p : Nat) (T : World → Prop) : Nat → Array Bool → Act → Prop :=
  HeadAny P md (l.set ai (mvOp oa p)).toArray (fun W => ∃ X : ExtT w T, W = w.ext X.to) n (fun listed a => Region.seqB md (l.set ai (mvOp oa p)).toArray g n listed = true ∧ a = A p)

theorem HeadT.put_val (hD : Region.dstsB l = true) (hoa : l[ai]? = some oa) {p : Nat} {T : World → Prop} {f i d : Nat} {oi : Oper} {listed : Array Bool} {a : Act} {v : Value} (hi : l[i]? = some oi) (hin : i < listed.size)
    (hd : oi.dst = some d) (h : HeadT P md l ai n oa w A g p T f (listed.setIfInBounds i true) (a.put oi.dst v)) : (a.put oi.dst v).tmps[d]? = (A p).tmps[d]? := by
  refine HeadAny.val (A := A p) (fun _ _ h => h.2) f _ _ d (fun j oj hj hl e => ?_) h
  have hj' : ∃ oj', l[j]? = some oj' ∧ oj'.dst = some d := by
    rw [List.getElem?_toArray, set_get hoa] at hj
    by_cases hja : j = ai
    · subst hja; rw [if_pos rfl] at hj; cases hj; exact ⟨oa, hoa, e⟩
    · rw [if_neg hja] at hj; exact ⟨oj, hj, e⟩
  obtain ⟨oj', hj1, hj2⟩ := hj'
  obtain rfl := dstsB_spec hD hi hj1 hd hj2
  rw [getD_set_same true hin] at hl
  cases hl

theorem HeadT.any1 (hD : Region.dstsB l = true) (hoa : l[ai]? = some oa) {p : Nat} (hg : g = l.length - n) (hn : n ≤ l.length)
    (htail : ∀ W, w.Exts W → W.heap[p]? = some o → wpList P l.toArray Q (l.drop n) (A p) W) :
    ∀ (f : Nat) (listed : Array Bool) (a : Act) (W : World), listed.size = l.length → listed.getD ai true = true → w.Exts W → W.heap[p]? = some o →
      (∀ T, UpT w T → HeadT P md l ai n oa w A g p T f listed a) → wpAny P md l.toArray Q (f + g) listed a W
  | 0, listed, a, W, _, _, hE, ho, h => by
    obtain ⟨h1, rfl⟩ := h (fun _ => True) (upT_all w)
    rw [seqB_set hoa] at h1
    have h2 := wpAny_of_seq (md := md) (Q' := Q) (l.drop n) n listed (A p) W (fun j => by simp [List.getElem?_drop]) (by rw [List.length_drop, ← hg]; exact h1) (htail W hE ho)
    rw [List.length_drop, ← hg] at h2
    rw [Nat.zero_add]; exact h2
  | f + 1, listed, a, W, hsz, hl, hE, ho, h => by
    rw [Nat.add_right_comm]
    have hne := (h (fun _ => True) (upT_all w)).1
    rw [ready_set hoa] at hne
    refine ⟨fun h0 => absurd h0 hne, fun i hi => ?_⟩
    obtain ⟨hun, oi, hoi, _⟩ := mem_ready.1 hi
    have hia : i ≠ ai := fun e => by rw [e, hl] at hun; cases hun
    have hoi' : l[i]? = some oi := by simpa using hoi
    have hin : i < listed.size := by rw [hsz]; exact (List.getElem?_eq_some_iff.1 hoi').1
    have hset : (l.set ai (mvOp oa p)).toArray[i]? = some oi := by rw [List.getElem?_toArray, set_get hoa, if_neg hia, hoi']
    have each : ∀ T, UpT w T → ∃ v, YieldsIn P (l.set ai (mvOp oa p)).toArray (fun W => ∃ X : ExtT w T, W = w.ext X.to) oi v a ∧ HeadT P md l ai n oa w A g p T f (listed.setIfInBounds i true) (a.put oi.dst v) := fun T hT =>
      yieldsIn_of_qOp hset ((h T hT).2 i (by rw [ready_set hoa]; exact hi)).2
    have hup := upT_exts hE
    obtain ⟨v, hy, hv⟩ := each _ hup
    have hall : ∀ T, UpT w T → HeadT P md l ai n oa w A g p T f (listed.setIfInBounds i true) (a.put oi.dst v) := fun T hT => by
      obtain ⟨v', _, hv'⟩ := each T hT
      rw [put_eq (v := v) (v' := v') fun d hd => (HeadT.put_val hD hoa hoi' hin hd hv).trans (HeadT.put_val hD hoa hoi' hin hd hv').symm]
      exact hv'
    have hy' : YieldsIn P l.toArray (fun W' => ∃ X : ExtT w (fun W' => W.Exts W'), W' = w.ext X.to) oi v a := by
      unfold YieldsIn at hy ⊢
      rw [yielded_set hoa] at hy
      exact hy
    obtain ⟨XW, hXW⟩ := hE
    refine wpOp_of_qOp (C := fun W' => ∃ X : ExtT w (fun W' => W.Exts W'), W' = w.ext X.to) ⟨⟨XW, by rw [hXW]; exact World.Exts.refl _⟩, hXW⟩ ?_ (YieldsIn.qOp (K := fun a' => a' = a.put oi.dst v) hoi hy' rfl)
    rintro a' W' ⟨X, rfl⟩ rfl
    have hW : W.Exts (w.ext X.to) := X.ok
    have hlt : p < W.heap.size := (Array.getElem?_eq_some_iff.1 ho).1
    exact HeadT.any1 hD hoa hg hn htail f _ _ _ (by simpa using hsz) (by rw [getD_set_ne true hia]; exact hl) ⟨X.to, rfl⟩ ((hW.below.block p hlt).trans ho) hall

theorem HeadT.any0 (hD : Region.dstsB l = true) (hoa : l[ai]? = some oa) (hgu : oa.guard = none) (haf : oa.after = #[]) (hai : ai < n) (hg : g = l.length - n) (hn : n ≤ l.length)
    (hA0 : ∀ (a : Act) (W : World), (execOp a.eval oa).run P W = .ok (.value (.pointer (some ⟨W.heap.size, 0, none⟩))) (W.alloc o)) (hAp : ∀ p, A p = (A 0).put oa.dst (.pointer (some ⟨p, 0, none⟩)))
    (htail : ∀ p W, w.heap.size ≤ p → w.Exts W → W.heap[p]? = some o → wpList P l.toArray Q (l.drop n) (A p) W) :
    ∀ (f : Nat) (listed : Array Bool) (a : Act) (W : World), listed.size = l.length → listed.getD ai true = false → w.Exts W →
      (∀ p, w.heap.size ≤ p → ∀ T, UpT w T → HeadT P md l ai n oa w A g p T f listed a) → wpAny P md l.toArray Q (f + g) listed a W
  | 0, listed, a, W, _, hl, _, h => by
    obtain ⟨h1, _⟩ := h w.heap.size (Nat.le_refl _) (fun _ => True) (upT_all w)
    have := seqB_ready h1 ai (by rw [ready_set hoa]; exact mem_ready.2 ⟨hl, oa, by simpa using hoa, fun e he => by rw [haf] at he; simp at he⟩)
    omega
  | f + 1, listed, a, W, hsz, hl, hE, h => by
    rw [Nat.add_right_comm]
    have hne := (h w.heap.size (Nat.le_refl _) (fun _ => True) (upT_all w)).1
    rw [ready_set hoa] at hne
    refine ⟨fun h0 => absurd h0 hne, fun i hi => ?_⟩
    obtain ⟨hun, oi, hoi, _⟩ := mem_ready.1 hi
    have hoi' : l[i]? = some oi := by simpa using hoi
    have hin : i < listed.size := by rw [hsz]; exact (List.getElem?_eq_some_iff.1 hoi').1
    by_cases hia : i = ai
    · subst hia
      obtain rfl : oi = oa := by rw [hoa] at hoi'; cases hoi'; rfl
      unfold wpOp
      simp only [hoi]
      rw [if_pos (by unfold Region.wanted; rw [hgu])]
      refine .inl ?_
      unfold Oper.wp
      rw [hA0, Oper.upon_value]
      have hle : w.heap.size ≤ W.heap.size := hE.size
      have hset : (l.set i (mvOp oi W.heap.size)).toArray[i]? = some (mvOp oi W.heap.size) := by rw [List.getElem?_toArray, set_get hoa, if_pos rfl]
      refine HeadT.any1 hD hoa hg hn (fun W' => htail W.heap.size W' hle) f _ _ _ (by simpa using hsz) (getD_set_same true hin) (hE.alloc o) (World.alloc_heap_new W o) (fun T hT => ?_)
      obtain ⟨v', _, hv'⟩ := yieldsIn_of_qOp hset ((h W.heap.size hle T hT).2 i (by rw [ready_set hoa]; exact hi)).2
      have hv'' : HeadT P md l i n oi w A g W.heap.size T f (listed.setIfInBounds i true) (a.put oi.dst v') := hv'
      rw [put_eq (v := .pointer (some ⟨W.heap.size, 0, none⟩)) (v' := v') fun d hd => ?_]
      · exact hv''
      · have h1 := HeadT.put_val hD hoa hoi' hin hd hv''
        rw [hAp] at h1
        rw [h1, hd, put_same, put_same]
        rw [hd, put_same, put_same] at h1
        by_cases hda : d < a.tmps.size
        · rw [if_pos hda] at h1 ⊢
          by_cases hdA : d < (A 0).tmps.size
          · rw [if_pos hdA]
          · rw [if_neg hdA] at h1; cases h1
        · rw [if_neg hda] at h1 ⊢
          exact h1
    · have hset : ∀ p, (l.set ai (mvOp oa p)).toArray[i]? = some oi := fun p => by rw [List.getElem?_toArray, set_get hoa, if_neg hia, hoi']
      have each : ∀ p, w.heap.size ≤ p → ∀ T, UpT w T → ∃ v, YieldsIn P (l.set ai (mvOp oa p)).toArray (fun W => ∃ X : ExtT w T, W = w.ext X.to) oi v a ∧ HeadT P md l ai n oa w A g p T f (listed.setIfInBounds i true) (a.put oi.dst v) := fun p hp T hT =>
        yieldsIn_of_qOp (hset p) ((h p hp T hT).2 i (by rw [ready_set hoa]; exact hi)).2
      have hup := upT_exts hE
      obtain ⟨v, hy, hv⟩ := each w.heap.size (Nat.le_refl _) _ hup
      have hA2 : ∀ p d, oi.dst = some d → (A p).tmps[d]? = (A 0).tmps[d]? := fun p d hd => by
        rw [hAp, put_other (fun e => hia (dstsB_spec hD hoi' hoa hd e))]
      have hall : ∀ p, w.heap.size ≤ p → ∀ T, UpT w T → HeadT P md l ai n oa w A g p T f (listed.setIfInBounds i true) (a.put oi.dst v) := fun p hp T hT => by
        obtain ⟨v', _, hv'⟩ := each p hp T hT
        rw [put_eq (v := v) (v' := v') fun d hd => (HeadT.put_val hD hoa hoi' hin hd hv).trans ((hA2 _ d hd).trans ((hA2 p d hd).symm.trans (HeadT.put_val hD hoa hoi' hin hd hv').symm))]
        exact hv'
      have hy' : YieldsIn P l.toArray (fun W' => ∃ X : ExtT w (fun W' => W.Exts W'), W' = w.ext X.to) oi v a := by
        unfold YieldsIn at hy ⊢
        rw [yielded_set hoa] at hy
        exact hy
      obtain ⟨XW, hXW⟩ := hE
      refine wpOp_of_qOp (C := fun W' => ∃ X : ExtT w (fun W' => W.Exts W'), W' = w.ext X.to) ⟨⟨XW, by rw [hXW]; exact World.Exts.refl _⟩, hXW⟩ ?_ (YieldsIn.qOp (K := fun a' => a' = a.put oi.dst v) hoi hy' rfl)
      rintro a' W' ⟨X, rfl⟩ rfl
      exact HeadT.any0 hD hoa hgu haf hai hg hn hA0 hAp htail f _ _ _ (by simpa using hsz) (by rw [getD_set_ne true hia]; exact hl) ⟨X.to, rfl⟩ hall

/-- One block made among quiet operations, then a forced tail. -/
theorem wpAny_alloc {a : Act} (n ai : Nat) (oa : Oper) (o : Obj) (A : Nat → Act) (hB : ∀ p, Region.lexTailB .any (l.set ai (mvOp oa p)).toArray n = true) (hD : Region.dstsB l = true) (hoa : l[ai]? = some oa) (hgu : oa.guard = none) (haf : oa.after = #[]) (hai : ai < n)
    (hA0 : ∀ (a : Act) (W : World), (execOp a.eval oa).run P W = .ok (.value (.pointer (some ⟨W.heap.size, 0, none⟩))) (W.alloc o)) (hAp : ∀ p, A p = (A 0).put oa.dst (.pointer (some ⟨p, 0, none⟩)))
    (hwalk : ∀ p, w.heap.size ≤ p → ∀ T, UpT w T → ∀ L : Act → Prop, L (A p) → wpQuiet P (l.set ai (mvOp oa p)).toArray (fun W => ∃ X : ExtT w T, W = w.ext X.to) L ((l.set ai (mvOp oa p)).take n) a)
    (htail : ∀ p W, w.heap.size ≤ p → w.Exts W → W.heap[p]? = some o → wpList P l.toArray Q (l.drop n) (A p) W) :
    wpAny P .any l.toArray Q l.toArray.size (Array.replicate l.toArray.size false) a { w with drawn := w.drawn + 1 } := by
  have hB0 := hB 0
  simp only [Region.lexTailB, Bool.and_eq_true, decide_eq_true_eq] at hB0
  have hn' : n < l.length := by simpa using hB0.1.1.1.2
  have hgl : ∀ p, (l.set ai (mvOp oa p)).toArray.size - n = l.length - n := fun p => by simp
  have htl : ∀ p, ((l.set ai (mvOp oa p)).take n).length = n := fun p => by simp; omega
  have key := HeadT.any0 (md := .any) (P := P) (w := w) (A := A) (g := l.length - n) hD hoa hgu haf hai rfl (by omega) hA0 hAp htail n (Array.replicate l.toArray.size false) a { w with drawn := w.drawn + 1 } (by simp) (getD_replicate_lt (by simpa using (List.getElem?_eq_some_iff.1 hoa).1)) ⟨⟨w.drew, (Below.refl _ _).drew⟩, rfl⟩ (fun p hp T hT => ?_)
  · rw [show n + (l.length - n) = l.toArray.size by simp; omega] at key
    exact key
  · have hBp := hB p
    simp only [Region.lexTailB, Bool.and_eq_true, decide_eq_true_eq] at hBp
    obtain ⟨⟨⟨⟨hsel, hn⟩, hs⟩, hc⟩, hlex⟩ := hBp
    have inv0 : HeadInv .any (l.set ai (mvOp oa p)).toArray n (Array.replicate l.toArray.size false) :=
      ⟨by simp, fun j oj _ hl => (by rw [getD_replicate_false] at hl; cases hl), fun t _ ht => getD_in (by simpa using ht) (getD_replicate_false _ _)⟩
    have H := HeadAny.lex (md := .any) (g := l.length - n) hsel hs hc hn ((l.set ai (mvOp oa p)).take n) 0 _ a (fun j hj => by rw [htl] at hj; simp [hj]) (by simpa using htl p) inv0 (by rw [htl]; rw [hgl] at hlex; simpa using hlex) (hwalk p hp T hT (fun a' => a' = A p) rfl)
    rw [htl] at H
    exact H
end

theorem wp_region_alloc {P : Program} {id : Nat} {Q : Exit → Act → World → Prop} {a : Act} {w : World} {l : List Oper} (n ai : Nat) (oa : Oper) (o : Obj) (hm : P.follows .mixedOrders = true) (hB : ∀ p, Region.lexTailB .any (l.set ai (mvOp oa p)).toArray n = true) (hD : Region.dstsB l = true) (hoa : l[ai]? = some oa) (hgu : oa.guard = none) (haf : oa.after = #[]) (hai : ai < n)
    (hA0 : ∀ (a : Act) (W : World), (execOp a.eval oa).run P W = .ok (.value (.pointer (some ⟨W.heap.size, 0, none⟩))) (W.alloc o)) 
    (h : ∃ A : Nat → Act, (∀ p, w.heap.size ≤ p → ∀ T, UpT w T → ∀ L : Act → Prop, L (A p) → wpQuiet P (l.set ai (mvOp oa p)).toArray (fun W => ∃ X : ExtT w T, W = w.ext X.to) L ((l.set ai (mvOp oa p)).take n) a) ∧ (∀ p, A p = (A 0).put oa.dst (.pointer (some ⟨p, 0, none⟩))) ∧
      (∀ p W, w.heap.size ≤ p → w.Exts W → W.heap[p]? = some o → wpList P l.toArray Q (l.drop n) (A p) W)) : (Code.region id l.toArray true).wp P Q a w :=
  let ⟨A, hwalk, hAp, htail⟩ := h
  wp_region_any hm (wpAny_alloc n ai oa o A hB hD hoa hgu haf hai hA0 hAp hwalk htail)

end Go

/-
  A region that draws its order and holds calls of which only A PROPERTY of the result is known (a slice made anew, somewhere): one walk in the text's order, the results variables; what is known of each call's result may lean on the results that it waits for.
-/
namespace Go
open Go.RowKit

/-- An operation that is no call of a Go function: among those that are met here. -/
def Oper.plainB (o : Oper) : Bool :=
  match o.op with
  | .move _ | .assign _ | .pick _ _ _ | .load _ _ | .fieldAddr _ _ _ | .field _ _ _ | .indexAddr _ _ _ | .index _ _ _ | .binOp _ _ _ _ _ | .unOp _ _ _ | .convert _ _ _ | .slice _ _ _ _ _ | .build _ _ | .extract _ _ | .lookup _ _ _ _ | .makeFunc _ _ _ => true
  | .call c => match c.callee with
    | .builtin .len => true
    | .builtin .max => true
    | .builtin .min => true
    | _ => false
  | _ => false
theorem Oper.not_enter {P : Program} {o : Oper} (h : o.plainB = true) {ρ : Operand → Value} {w w' : World} {f : FuncId} {args : Array Value} : (execOp ρ o).run P w ≠ .ok (.enter f args) w' := by
  have key : ∀ (s : Sem Value), ((do let x ← s; pure (Next.value x) : Sem Next)).run P w ≠ .ok (.enter f args) w' := by
    intro s
    rw [Sem.run_bind]
    cases s.run P w with
    | ok v w1 => simp [Result.andThen]
    | halt x w1 => simp [Result.andThen]
  have key2 : ∀ (r : Result Value), (r.andThen fun a w1 => .ok (Next.value a) w1) ≠ .ok (.enter f args) w' := by
    intro r
    cases r with
    | ok v w1 => simp [Result.andThen]
    | halt x w1 => simp [Result.andThen]
  obtain ⟨dst, op, ty, pos, after, guard⟩ := o
  cases op
  case call c =>
    obtain ⟨cal, xs, tys⟩ := c
    cases cal
    case builtin b =>
      cases b
      all_goals first
        | (simp [Oper.plainB] at h; done)
        | (simp only [execOp, resolve, Sem.run_bind, Sem.run_pure, Result.andThen_ok, invoke, builtin]; exact key2 _)
    all_goals (simp [Oper.plainB] at h; done)
  case pick c x y =>
    simp only [execOp, Sem.run_bind]
    cases (asBool (ρ c)).run P w with
    | ok v w1 => simp [Result.andThen]
    | halt x w1 => simp [Result.andThen]
  all_goals first
    | (simp [Oper.plainB] at h; done)
    | (simp only [execOp]; exact key _)
    | (simp [execOp])

/-- A call as if its result were v. -/
def cOp (o : Oper) (v : Value) : Oper := { o with op := .move (.const v) }
def modU (l : List Oper) (U : Nat → Bool) (ν : Nat → Value) : List Oper := l.mapIdx fun i o => if U i then cOp o (ν i) else o
def updU (ν : Nat → Value) (c : Nat) (v : Value) : Nat → Value := fun i => if i = c then v else ν i

/-- A call, as it stands: what comes of it. -/
def Oper.gives (P : Program) (o : Oper) (ρ : Operand → Value) (w : World) (R : Value → World → Prop) : Prop :=
  (∃ f args, (execOp ρ o).run P w = .ok (.enter f args) w ∧ Calls P f args w fun e w' => ∃ v, e = .returned v ∧ R v w') ∨ ∃ v w', (execOp ρ o).run P w = .ok (.value v) w' ∧ R v w'
theorem Oper.gives_fn {P : Program} {o : Oper} {c : Call} {f : FuncId} {ρ : Operand → Value} {w : World} {R : Value → World → Prop} {xs : List Operand} (ho : o.op = .call c) (hc : c.callee = .value (.func f)) (hx : c.args = xs.toArray) (ef : ∀ args w, (callFunc f args).run P w = .ok (.enter f args) w)
    (h : Calls P f (xs.map ρ).toArray w fun e w' => ∃ v, e = .returned v ∧ R v w') (hρ : ρ (.func f) = .func (.func f) #[] #[]) : o.gives P ρ w R := by
  refine .inl ⟨f, (xs.map ρ).toArray, ?_, h⟩
  unfold execOp
  simp [ho, resolve, hc, hρ, Deferred.ofValue, invoke, ef, hx]

section
variable {P : Program} {md : Region.Mode} {l : List Oper} {n : Nat} {U : Nat → Bool} {w : World} {Q : Exit → Act → World → Prop} {g : Nat} {A : (Nat → Value) → Act} {Φ : Nat → Value → World → Prop}

theorem modU_get (ν : Nat → Value) (j : Nat) : (modU l U ν)[j]? = (l[j]?).map fun o => if U j then cOp o (ν j) else o := by
  unfold modU; rw [List.getElem?_mapIdx]
theorem modU_len (ν : Nat → Value) : (modU l U ν).length = l.length := by unfold modU; simp
theorem modU_map {β : Type} (φ : Oper → β) (hφ : ∀ o v, φ (cOp o v) = φ o) (ν : Nat → Value) (j : Nat) : ((modU l U ν).toArray[j]?).map φ = (l.toArray[j]?).map φ := by
  simp only [List.getElem?_toArray]
  rw [modU_get]
  cases l[j]? with
  | none => rfl
  | some o => simp only [Option.map_some]; split <;> simp [hφ]
theorem ready_modU (ν : Nat → Value) (listed : Array Bool) : Region.ready md (modU l U ν).toArray listed = Region.ready md l.toArray listed := by
  unfold Region.ready
  simp only [List.size_toArray, modU_len]
  congr 1
  funext i
  rw [modU_map (fun o => o.after.all fun e => !Region.binds md e || listed.getD e.on false) (fun _ _ => rfl)]
theorem yielded_modU (ν : Nat → Value) (tmps : Array Value) : yielded (modU l U ν).toArray tmps = yielded l.toArray tmps := by
  funext j
  unfold yielded
  have h := modU_map (l := l) (U := U) (fun o => o.dst) (fun _ _ => rfl) ν j
  have e : ∀ x : Option Oper, x.bind (·.dst) = (x.map (·.dst)).join := fun x => by cases x <;> rfl
  rw [e, e, h]
theorem seqB_modU (ν : Nat → Value) : ∀ (g k : Nat) (listed : Array Bool), Region.seqB md (modU l U ν).toArray g k listed = Region.seqB md l.toArray g k listed
  | 0, _, _ => by simp only [Region.seqB, ready_modU]
  | g + 1, k, listed => by simp only [Region.seqB, ready_modU, seqB_modU ν g]

abbrev HeadC (P : Program) (md : Region.Mode) (l : List Oper) (U : Nat → Bool) (n : Nat) (w : World) (A : (Nat → Value) → Act) (g : Nat) (ν : Nat → Value) : Nat → Array Bool → Act → Prop :=
  HeadAny P md (modU l U ν).toArray (fun W => ∃ X : Ext w, W = w.ext X) n (fun listed a => Region.seqB md (modU l U ν).toArray g n listed = true ∧ a = A ν)

/-- Each operation waits for earlier ones alone. -/
def Region.backB (l : List Oper) : Bool := (List.range l.length).all fun i => match l[i]? with | some o => o.after.all fun e => decide (e.on < i) | none => true
theorem backB_spec (h : Region.backB l = true) {i : Nat} {o : Oper} (hi : l[i]? = some o) : ∀ e ∈ o.after, e.on < i := by
  have h1 := List.all_eq_true.1 h i (List.mem_range.2 (List.getElem?_eq_some_iff.1 hi).1)
  simp only [hi] at h1
  intro e he
  have := Array.all_eq_true'.1 h1 e he
  simpa using this

/-- The temporaries that a call's operands name. -/
def Operand.tmpOf : Operand → List Nat | .tmp d => [d] | _ => []
def Call.tmps (c : Call) : List Nat := c.args.toList.flatMap Operand.tmpOf ++ (match c.callee with | .value f => f.tmpOf | .invoke r _ => r.tmpOf | .builtin _ => [])
/-- The temporaries that an operation of which only a property is known reads: a call, a block that is made. -/
def Oper.opTmps (o : Oper) : Option (List Nat) :=
  match o.op with
  | .call c => some c.tmps
  | .buildSlice _ _ parts => some (parts.toList.flatMap fun p => p.2.tmpOf)
  | .build _ parts => some (parts.toList.flatMap fun p => p.2.tmpOf)
  | .box _ x => some x.tmpOf
  | .alloc _ => some []
  | _ => none
/-- What writes an operand of such an operation is waited for by it. -/
def Region.fedB (md : Region.Mode) (l : List Oper) (U : Nat → Bool) : Bool := (List.range l.length).all fun i => !U i || match l[i]? with
  | some o => match o.opTmps with
    | some ts => (ts.all fun d => (List.range l.length).all fun j => decide ((l[j]?).bind (·.dst) ≠ some d) || o.after.any fun e => Region.binds md e && e.on == j)
    | none => false
  | none => true

theorem eval_tmp_eq {a b : Act} {x : Operand} (h : ∀ d ∈ x.tmpOf, a.tmps[d]? = b.tmps[d]?) : a.eval x = b.eval x := by
  cases x with
  | tmp d =>
    have := h d (by simp [Operand.tmpOf])
    unfold Act.eval
    simp [Array.getD_eq_getD_getElem?, this]
  | const v => rfl
  | func f => rfl
  | global g => rfl
theorem gives_congr {a b : Act} {o : Oper} {ts : List Nat} {W : World} {R : Value → World → Prop} (ho : o.opTmps = some ts) (h : ∀ d ∈ ts, a.tmps[d]? = b.tmps[d]?) (hg : o.gives P b.eval W R) : o.gives P a.eval W R := by
  have e : execOp a.eval o = execOp b.eval o := by
    unfold Oper.opTmps at ho
    split at ho
    · rename_i c hop
      cases ho
      have e1 : c.args.map a.eval = c.args.map b.eval := by
        apply Array.map_congr_left
        intro x hx
        exact eval_tmp_eq fun d hd => h d (List.mem_append_left _ (List.mem_flatMap.2 ⟨x, by simpa using hx, hd⟩))
      have e2 : resolve a.eval c o.type = resolve b.eval c o.type := by
        unfold resolve
        rw [e1]
        cases hc : c.callee with
        | builtin b => rfl
        | invoke r name =>
          have : a.eval r = b.eval r := eval_tmp_eq fun d hd => h d (List.mem_append_right _ (by rw [hc]; exact hd))
          simp [this]
        | value f =>
          have : a.eval f = b.eval f := eval_tmp_eq fun d hd => h d (List.mem_append_right _ (by rw [hc]; exact hd))
          simp [this]
      unfold execOp
      simp only [hop, e2]
    · rename_i t n parts hop
      cases ho
      have e1 : (parts.map fun x => (x.1, a.eval x.2)) = parts.map fun x => (x.1, b.eval x.2) := by
        apply Array.map_congr_left
        intro x hx
        have : a.eval x.2 = b.eval x.2 := eval_tmp_eq fun d hd => h d (List.mem_flatMap.2 ⟨x, by simpa using hx, hd⟩)
        rw [this]
      unfold execOp
      simp only [hop, e1]
    · rename_i t parts hop
      cases ho
      have e1 : (parts.map fun x => (x.1, a.eval x.2)) = parts.map fun x => (x.1, b.eval x.2) := by
        apply Array.map_congr_left
        intro x hx
        have : a.eval x.2 = b.eval x.2 := eval_tmp_eq fun d hd => h d (List.mem_flatMap.2 ⟨x, by simpa using hx, hd⟩)
        rw [this]
      unfold execOp
      simp only [hop, e1]
    · rename_i t x hop
      cases ho
      have e1 : a.eval x = b.eval x := eval_tmp_eq h
      unfold execOp
      simp only [hop, e1]
    · rename_i t hop
      unfold execOp
      simp only [hop]
    · cases ho
  unfold Oper.gives at hg ⊢
  rw [e]; exact hg

theorem HeadC.put_val (hD : Region.dstsB l = true) {ν : Nat → Value} {f i d : Nat} {oi : Oper} {listed : Array Bool} {a : Act} {v : Value} (hi : l[i]? = some oi) (hin : i < listed.size)
    (hd : oi.dst = some d) (h : HeadC P md l U n w A g ν f (listed.setIfInBounds i true) (a.put oi.dst v)) : (a.put oi.dst v).tmps[d]? = (A ν).tmps[d]? := by
  refine HeadAny.val (A := A ν) (fun _ _ h => h.2) f _ _ d (fun j oj hj hl e => ?_) h
  have hj' : ∃ oj', l[j]? = some oj' ∧ oj'.dst = some d := by
    rw [List.getElem?_toArray, modU_get] at hj
    cases hlj : l[j]? with
    | none => rw [hlj] at hj; cases hj
    | some o' =>
      rw [hlj] at hj
      simp only [Option.map_some, Option.some.injEq] at hj
      refine ⟨o', rfl, ?_⟩
      rw [← hj] at e
      split at e
      · exact e
      · exact e
  obtain ⟨oj', hj1, hj2⟩ := hj'
  obtain rfl := dstsB_spec hD hi hj1 hd hj2
  rw [getD_set_same true hin] at hl
  cases hl

theorem quietUpon_same {C : World → Prop} {W : World} {v v' : Value} {r : Result Next} (hne : ∀ f args w', r ≠ .ok (.enter f args) w') (h : Oper.quietUpon P C W v r) (h' : Oper.quietUpon P C W v' r) : v = v' := by
  unfold Oper.quietUpon at h h'
  split at h
  · exact h.2.symm.trans h'.2
  · rw [h.2, h'.2]
  · exact absurd rfl (hne _ _ _)
  · exact h.elim

theorem wpOp_of_yields {ops ops' : Array Oper} {C : World → Prop} {i : Nat} {oi : Oper} {v : Value} {a : Act} {W : World} {K : Act → World → Prop} (hi : ops[i]? = some oi) (hy : yielded ops' a.tmps = yielded ops a.tmps) (hp : oi.plainB = true) (hC : C W)
    (h : YieldsIn P ops' C oi v a) (hK : K (a.put oi.dst v) W) : wpOp P ops Q i K a W := by
  unfold wpOp
  simp only [hi]
  unfold YieldsIn at h
  rw [hy] at h
  rcases h with ⟨hw, hq⟩ | ⟨hw, rfl⟩
  · rw [if_pos hw]
    refine .inl ?_
    have hq := hq W hC
    unfold Oper.quietAt at hq
    unfold Oper.wp
    generalize hr : (execOp a.eval oi).run P W = r at hq
    unfold Oper.quietUpon at hq
    split at hq
    · obtain ⟨rfl, rfl⟩ := hq; exact hK
    · obtain ⟨rfl, rfl⟩ := hq; exact hK
    · exact absurd hr (Oper.not_enter hp)
    · exact hq.elim
  · rw [if_neg (by rw [hw]; simp)]
    exact hK

theorem HeadC.any (hD : Region.dstsB l = true) (hback : Region.backB l = true) (hfed : Region.fedB md l U = true) (hgu : ∀ ν i oi, l[i]? = some oi → U i = true → Region.wanted oi (yielded l.toArray (A ν).tmps) = true ∧ ∀ gi pol, oi.guard = some (gi, pol) → ∃ e ∈ oi.after, Region.binds md e = true ∧ e.on = gi) (hp : ∀ i o, l[i]? = some o → i < n → U i = false → o.plainB = true) (hg : g = l.length - n) (hn : n ≤ l.length)
    (hmono : ∀ c v W W', Φ c v W → W.Exts W' → Φ c v W')
    (hcall : ∀ c oc, l[c]? = some oc → U c = true → ∀ ν W, w.Exts W → (∀ c', U c' = true → (∃ e ∈ oc.after, Region.binds md e = true ∧ e.on = c') → Φ c' (ν c') W) → oc.gives P (A ν).eval W fun v W' => W.Exts W' ∧ Φ c v W')
    (htail : ∀ ν W, w.Exts W → (∀ c, c < n → U c = true → Φ c (ν c) W) → wpList P l.toArray Q (l.drop n) (A ν) W) :
    ∀ (f : Nat) (listed : Array Bool) (a : Act) (W : World) (ν : Nat → Value), listed.size = l.length → w.Exts W → (∀ c, c < l.length → U c = true → listed.getD c true = true → Φ c (ν c) W) →
      (∀ ν', (∀ c, c < l.length → U c = true → listed.getD c true = true → ν' c = ν c) → HeadC P md l U n w A g ν' f listed a) → wpAny P md l.toArray Q (f + g) listed a W
  | 0, listed, a, W, ν, hsz, hE, hK, h => by
    obtain ⟨h1, rfl⟩ := h ν (fun _ _ _ _ => rfl)
    rw [seqB_modU] at h1
    have hall : ∀ c, c < n → listed.getD c true = true := by
      intro c
      induction c using Nat.strongRecOn with
      | _ c ih =>
        intro hc
        cases hl : listed.getD c true with
        | true => rfl
        | false =>
          obtain ⟨o, ho⟩ : ∃ o, l[c]? = some o := ⟨_, List.getElem?_eq_getElem (by omega)⟩
          have := seqB_ready h1 c (mem_ready.2 ⟨hl, o, by simpa using ho, fun e he _ => by
            have hlt := backB_spec hback ho e he
            have := ih e.on hlt (by omega)
            rw [Array.getD_eq_getD_getElem?] at this ⊢
            rw [Array.getElem?_eq_getElem (by rw [hsz]; omega)] at this ⊢
            exact this⟩)
          omega
    have h2 := wpAny_of_seq (md := md) (Q' := Q) (l.drop n) n listed (A ν) W (fun j => by simp [List.getElem?_drop]) (by rw [List.length_drop, ← hg]; exact h1) (htail ν W hE fun c hc hU => hK c (by omega) hU (hall c hc))
    rw [List.length_drop, ← hg] at h2
    rw [Nat.zero_add]; exact h2
  | f + 1, listed, a, W, ν, hsz, hE, hK, h => by
    rw [Nat.add_right_comm]
    have h0 := h ν (fun _ _ _ _ => rfl)
    have hne := h0.1
    rw [ready_modU] at hne
    refine ⟨fun h0 => absurd h0 hne, fun i hi => ?_⟩
    obtain ⟨hun, oi, hoi, hwait⟩ := mem_ready.1 hi
    have hoi' : l[i]? = some oi := by simpa using hoi
    have hil : i < l.length := (List.getElem?_eq_some_iff.1 hoi').1
    have hin : i < listed.size := by rw [hsz]; exact hil
    have hW : ∃ X : Ext w, W = w.ext X := hE
    have hlt : i < n := (h0.2 i (by rw [ready_modU]; exact hi)).1
    cases hU : U i with
    | false =>
      have hset : ∀ ν', (modU l U ν').toArray[i]? = some oi := fun ν' => by rw [List.getElem?_toArray, modU_get, hoi', Option.map_some, hU]; rfl
      have each : ∀ ν', (∀ c, c < l.length → U c = true → listed.getD c true = true → ν' c = ν c) → ∃ v, YieldsIn P (modU l U ν').toArray (fun W => ∃ X : Ext w, W = w.ext X) oi v a ∧ HeadC P md l U n w A g ν' f (listed.setIfInBounds i true) (a.put oi.dst v) := fun ν' hν' =>
        yieldsIn_of_qOp (hset ν') ((h ν' hν').2 i (by rw [ready_modU]; exact hi)).2
      have hpl := hp i oi hoi' hlt hU
      obtain ⟨v, hy, hv⟩ := each ν (fun _ _ _ _ => rfl)
      refine wpOp_of_yields hoi (yielded_modU ν _) hpl hW hy ?_
      refine HeadC.any hD hback hfed hgu hp hg hn hmono hcall htail f _ _ W ν (by simpa using hsz) hE (fun c hc hUc hl => ?_) (fun ν' hν' => ?_)
      · by_cases hci : c = i
        · subst hci; rw [hU] at hUc; cases hUc
        · rw [getD_set_ne true (Ne.symm hci)] at hl; exact hK c hc hUc hl
      · have hag : ∀ c, c < l.length → U c = true → listed.getD c true = true → ν' c = ν c := fun c hc hUc hl => by
          by_cases hci : c = i
          · subst hci; rw [hU] at hUc; cases hUc
          · exact hν' c hc hUc (by rw [getD_set_ne true (Ne.symm hci)]; exact hl)
        obtain ⟨v', hy', hv'⟩ := each ν' hag
        have hvv : v = v' := by
          unfold YieldsIn at hy hy'
          rw [yielded_modU] at hy hy'
          rcases hy with ⟨hw1, hq1⟩ | ⟨hw1, e1⟩ <;> rcases hy' with ⟨hw2, hq2⟩ | ⟨hw2, e2⟩
          · exact quietUpon_same (fun _ _ _ => Oper.not_enter hpl) (hq1 W hW) (hq2 W hW)
          · rw [hw1] at hw2; cases hw2
          · rw [hw1] at hw2; cases hw2
          · rw [e1, e2]
        rw [hvv]; exact hv'
    | true =>
      have hset : ∀ ν', (modU l U ν').toArray[i]? = some (cOp oi (ν' i)) := fun ν' => by rw [List.getElem?_toArray, modU_get, hoi', Option.map_some, hU]; rfl
      have hfd := List.all_eq_true.1 hfed i (List.mem_range.2 hil)
      simp only [hU, hoi', Bool.not_true, Bool.false_or] at hfd
      split at hfd
      case h_2 => cases hfd
      rename_i ts hop
      simp only [List.all_eq_true, List.mem_range] at hfd
      obtain ⟨hwn, hgd⟩ := hgu ν i oi hoi' hU
      have hwa : Region.wanted oi (yielded l.toArray a.tmps) = true := by
        cases hgc : oi.guard with
        | none => unfold Region.wanted; rw [hgc]
        | some gp =>
          obtain ⟨gi, pol⟩ := gp
          obtain ⟨e2, he2, hb2, hon2⟩ := hgd gi pol hgc
          have hgl : gi < l.length := by have := backB_spec hback hoi' e2 he2; omega
          have hlist := hwait e2 he2 hb2
          rw [hon2, Array.getD_eq_getD_getElem?, Array.getElem?_eq_getElem (by rw [hsz]; exact hgl)] at hlist
          have hsame : yielded l.toArray a.tmps gi = yielded l.toArray (A ν).tmps gi := by
            unfold yielded
            obtain ⟨og, hog⟩ : ∃ og, l[gi]? = some og := ⟨_, List.getElem?_eq_getElem hgl⟩
            rw [List.getElem?_toArray, hog, Option.bind_some]
            cases hdg : og.dst with
            | none => rfl
            | some d =>
              rw [Option.bind_some, Option.bind_some]
              have : a.tmps[d]? = (A ν).tmps[d]? := by
                refine HeadAny.val (A := A ν) (fun _ _ h => h.2) (f + 1) _ _ d (fun j oj hj hl e => ?_) h0
                rw [List.getElem?_toArray, modU_get] at hj
                cases hlj : l[j]? with
                | none => rw [hlj] at hj; cases hj
                | some o' =>
                  rw [hlj] at hj
                  simp only [Option.map_some, Option.some.injEq] at hj
                  have e' : o'.dst = some d := by
                    rw [← hj] at e
                    split at e
                    · exact e
                    · exact e
                  obtain rfl := dstsB_spec hD hog hlj hdg e'
                  rw [Array.getD_eq_getD_getElem?, Array.getElem?_eq_getElem (by rw [hsz]; exact hgl)] at hl
                  simp only [Option.getD_some] at hlist hl
                  rw [hl] at hlist
                  cases hlist
              rw [this]
          unfold Region.wanted at hwn ⊢
          rw [hgc] at hwn ⊢
          dsimp only at hwn ⊢
          rw [hsame]
          exact hwn
      have hgv := hcall i oi hoi' hU ν W hE (fun c' hUc ⟨e, he, hb, hon⟩ => by
        have hlist := hwait e he hb
        rw [hon] at hlist
        have hc' : c' < l.length := by have := backB_spec hback hoi' e he; omega
        refine hK c' hc' hUc ?_
        rw [Array.getD_eq_getD_getElem?] at hlist ⊢
        rw [Array.getElem?_eq_getElem (by rw [hsz]; exact hc')] at hlist ⊢
        exact hlist)
      have hops : ∀ d ∈ ts, a.tmps[d]? = (A ν).tmps[d]? := fun d hd => by
        refine HeadAny.val (A := A ν) (fun _ _ h => h.2) (f + 1) _ _ d (fun j oj hj hl e => ?_) h0
        rw [List.getElem?_toArray, modU_get] at hj
        cases hlj : l[j]? with
        | none => rw [hlj] at hj; cases hj
        | some o' =>
          rw [hlj] at hj
          simp only [Option.map_some, Option.some.injEq] at hj
          have e' : o'.dst = some d := by
            rw [← hj] at e
            split at e
            · exact e
            · exact e
          have hjl : j < l.length := (List.getElem?_eq_some_iff.1 hlj).1
          have h3 := hfd d hd j hjl
          rw [hlj] at h3
          simp only [Option.bind_some, e', ne_eq, not_true_eq_false, decide_false, Bool.false_or, Array.any_eq_true'] at h3
          obtain ⟨e2, he2, h4⟩ := h3
          simp only [Bool.and_eq_true, beq_iff_eq] at h4
          have hlist := hwait e2 he2 h4.1
          rw [h4.2] at hlist
          rw [Array.getD_eq_getD_getElem?, Array.getElem?_eq_getElem (by rw [hsz]; exact hjl)] at hlist hl
          simp only [Option.getD_some] at hlist hl
          rw [hl] at hlist
          cases hlist
      have hgv2 := gives_congr hop hops hgv
      have next : ∀ v W', W.Exts W' → Φ i v W' → wpAny P md l.toArray Q (f + g) (listed.setIfInBounds i true) (a.put oi.dst v) W' := by
        intro v W' hEW hΦ
        refine HeadC.any hD hback hfed hgu hp hg hn hmono hcall htail f _ _ W' (updU ν i v) (by simpa using hsz) (hE.trans hEW) (fun c' hc' hUc hl => ?_) (fun ν' hν' => ?_)
        · unfold updU
          by_cases hci : c' = i
          · rw [if_pos hci, hci]; exact hΦ
          · rw [if_neg hci]
            rw [getD_set_ne true (Ne.symm hci)] at hl
            exact hmono _ _ _ _ (hK c' hc' hUc hl) hEW
        · have hag : ∀ c, c < l.length → U c = true → listed.getD c true = true → ν' c = ν c := fun c hc hUc hl => by
            have hci : c ≠ i := fun e => by rw [e, hun] at hl; cases hl
            have h5 := hν' c hc hUc (by rw [getD_set_ne true (Ne.symm hci)]; exact hl)
            rw [h5]; unfold updU; rw [if_neg hci]
          have hvi : ν' i = v := by
            have h5 := hν' i hil hU (getD_set_same true hin)
            rw [h5]; unfold updU; rw [if_pos rfl]
          obtain ⟨u, hy, hu⟩ := yieldsIn_of_qOp (hset ν') ((h ν' hag).2 i (by rw [ready_modU]; exact hi)).2
          have huv : u = v := by
            unfold YieldsIn at hy
            rcases hy with ⟨_, hq⟩ | ⟨hw, _⟩
            · have h6 := hq W hW
              simp only [Oper.quietAt, cOp, execOp, Sem.run_pure, Oper.quietUpon] at h6
              rw [← h6.2]; exact hvi
            · rw [yielded_modU] at hw
              rw [show Region.wanted (cOp oi (ν' i)) (yielded l.toArray a.tmps) = Region.wanted oi (yielded l.toArray a.tmps) from rfl, hwa] at hw
              cases hw
          rw [huv] at hu
          exact hu
      unfold wpOp
      simp only [hoi]
      rw [if_pos hwa]
      refine .inl ?_
      unfold Oper.wp
      rcases hgv2 with ⟨fn, args, hrun, hc⟩ | ⟨v, W', hrun, hEW, hΦ⟩
      · rw [hrun, Oper.upon_enter]
        refine hc.mono ?_
        rintro e W' ⟨v, rfl, hEW, hΦ⟩
        exact next v W' hEW hΦ
      · rw [hrun, Oper.upon_value]
        exact next v W' hEW hΦ
end

/-- The law: 'n' operations, calls at the places U among them, then a forced tail. -/
def Region.guardFedB (md : Region.Mode) (l : List Oper) (U : Nat → Bool) : Bool := (List.range l.length).all fun i => !U i || match l[i]? with
  | some o => match o.guard with
    | some (gi, _) => o.after.any fun e => Region.binds md e && e.on == gi
    | none => true
  | none => true
theorem guardFedB_spec {md : Region.Mode} {l : List Oper} {U : Nat → Bool} (h : Region.guardFedB md l U = true) {i : Nat} {oi : Oper} (hi : l[i]? = some oi) (hU : U i = true) : ∀ gi pol, oi.guard = some (gi, pol) → ∃ e ∈ oi.after, Region.binds md e = true ∧ e.on = gi := by
  intro gi pol hg
  have h1 := List.all_eq_true.1 h i (List.mem_range.2 (List.getElem?_eq_some_iff.1 hi).1)
  simp only [hU, hi, hg, Bool.not_true, Bool.false_or, Array.any_eq_true'] at h1
  obtain ⟨e, he, h2⟩ := h1
  simp only [Bool.and_eq_true, beq_iff_eq] at h2
  exact ⟨e, he, h2⟩
end Go

/-
  An append of one element to a long slice of the function's own; the slice moves to a new block or stays.
-/
namespace Go
open Go.RowKit
section
variable {P : Program} {W w' : World} {base e size n : Nat} {v : Value} {xs : List Value}
/-- Where an append leaves the slice: where it lay, or in a block that is new. -/
theorem append_where (t ty : TypeId) {bytes : Nat} {z : Value} (E : ElemOf P t e z size bytes) (hown : W.ownsRow base e size v n xs) (ad : Addr) (c : Nat) (news : List Value) (hl : news.length = size)
    (hnews : ∀ j u, news[j]? = some u → W.cell? (ad.add j) = some u) (h1 : ∀ u ∈ news, u.oneCell' = true) (h63 : n + 1 ≤ maxLen) (hbytes : (n + 1) * bytes ≤ 140737488355328) {v' : Value}
    (hr : (Builtin.append_ #[t, t] ty #[v, .slice (some ad) 1 c]).run P W = .ok v' w') : v'.ownBlock = v.ownBlock ∨ v'.ownBlock = some W.heap.size := by
  obtain ⟨i, hi, hz, hsz, hby⟩ := info_parts E.inf
  subst hsz
  subst hby
  unfold maxLen at h63
  rcases hown.2 with ⟨rfl, rfl⟩ | ⟨g, cap, cur, rfl, _, hg, hnc, hcm, hcs, htake⟩
  · have h := run_append_nil (P := P) W t ty e i z E.und hi hz ad 1 c news (by simpa using hl) hnews (by omega) (by omega) (by omega)
    rw [h] at hr
    cases hr
    exact .inr rfl
  · by_cases hroom : n + 1 ≤ cap
    · have h := run_append_room (P := P) W t ty e i E.und hi g n cap cur hg ad 1 c news (by simpa using hl) hnews h1 hroom (by rw [hl, hcs, ← Nat.succ_mul]; exact Nat.mul_le_mul_right _ hroom)
      rw [h] at hr
      cases hr
      exact .inl rfl
    · have h := run_append_grow (P := P) W t ty e i z E.und hi hz ⟨g, 0, none⟩ n cap xs hown.1 (hown.cells (g := g) rfl) ad 1 c news (by simpa using hl) hnews (by omega) (by omega) (growslice_fits (by omega) hbytes)
      rw [h] at hr
      cases hr
      exact .inr rfl

/-- What is left behind an append; a block that lay beside the slice lies beside it still. -/
structure AppendedW (W w' : World) (v v' : Value) (base : Nat) : Prop extends Appended W w' v base where
  beside : ∀ b, b < W.heap.size → v.ownBlock ≠ some b → v'.ownBlock ≠ some b
/-- 'x = append(x, y)', as 'wpList_append1', to a slice that may be long. -/
theorem wp_append1W {o : Oper} {a : Act} {K : Act → World → Prop} {Q : Exit → Act → World → Prop} (s x : Operand) {t bytes : Nat} {z : Value} (E : ElemOf P t e z size bytes)
    (ho : o.op = .call { callee := .builtin .append, args := #[s, x], argTypes := #[t, t] })
    (hs : a.eval s = v) (hown : W.ownsRow base e size v n xs) (news : List Value) (nb : Nat) (hnb : nb = W.heap.size) (hx : a.eval x = .slice (some ⟨nb, 0, none⟩) 1 1) (hl : news.length = size) (h1 : ∀ u ∈ news, u.oneCell' = true)
    (hn : n ≤ 1000000000000) (hby : bytes ≤ 100) (hbase : base ≤ W.heap.size)
    (h : ∀ v' w', w'.ownsRow base e size v' (n + 1) (xs ++ news) → AppendedW W w' v v' base → K (a.put o.dst v') w') : o.wp P a (W.alloc (.cells news.toArray e)) K Q := by
  subst hnb
  obtain ⟨i0, hi, hz0, hz1, hz2⟩ := info_parts E.inf
  have hnews : ∀ j u, news[j]? = some u → (W.alloc (.cells news.toArray e)).cell? ((⟨W.heap.size, 0, none⟩ : Addr).add j) = some u := by
    intro j u hj
    rw [show (⟨W.heap.size, 0, none⟩ : Addr).add j = ⟨W.heap.size, j, none⟩ from by unfold Addr.add; split <;> simp_all]
    rw [World.cell?_alloc_new]
    simpa using hj
  have h63 : n + 1 ≤ maxLen := by unfold maxLen; omega
  have hbb : (n + 1) * bytes ≤ 140737488355328 := by
    calc (n + 1) * bytes ≤ (n + 1) * 100 := Nat.mul_le_mul_left _ hby
      _ ≤ 140737488355328 := by omega
  obtain ⟨v', w', hr, ho', hg', _⟩ := run_append_own (P := P) (W.alloc (.cells news.toArray e)) base t o.type e i0 z size bytes E.und hi hz0 hz1 hz2 E.zs E.pos v n xs (hown.alloc _) ⟨W.heap.size, 0, none⟩ 1 1 news (by simp [hl]) hnews h1 h63 hbb (by simp; omega)
  have hwh := append_where t o.type E (hown.alloc _) ⟨W.heap.size, 0, none⟩ 1 news hl hnews h1 h63 hbb hr
  unfold Oper.wp execOp
  simp only [ho, resolve, invoke, builtin, Sem.run_bind, Sem.run_pure, Result.andThen_ok, List.map_toArray, List.map_cons, List.map_nil, hs, hx, hr]
  refine h v' w' ho' ⟨⟨fun A hA hB => ?_, by have := hg'.size; simp at this; omega, fun k hk hne => ?_⟩, fun b hb hne => ?_⟩
  · exact exts_grown (hA.alloc _) hB (hown.alloc _) hg'
  · rw [hg'.block k (by simp; omega) hne]; exact Below.heap_alloc _ _ _ hk
  · rcases hwh with e1 | e1
    · rw [e1]; exact hne
    · rw [e1]; simp; omega
theorem wpList_append1W {ops : Array Oper} {rest : List Oper} {o : Oper} {a : Act} {Q : Exit → Act → World → Prop} (s x : Operand) {t bytes : Nat} {z : Value} (E : ElemOf P t e z size bytes) (hgd : o.guard = none)
    (ho : o.op = .call { callee := .builtin .append, args := #[s, x], argTypes := #[t, t] })
    (hs : a.eval s = v) (hown : W.ownsRow base e size v n xs) (news : List Value) (nb : Nat) (hnb : nb = W.heap.size) (hx : a.eval x = .slice (some ⟨nb, 0, none⟩) 1 1) (hl : news.length = size) (h1 : ∀ u ∈ news, u.oneCell' = true)
    (hn : n ≤ 1000000000000) (hby : bytes ≤ 100) (hbase : base ≤ W.heap.size)
    (h : ∀ v' w', w'.ownsRow base e size v' (n + 1) (xs ++ news) → AppendedW W w' v v' base → wpList P ops Q rest (a.put o.dst v') w') : wpList P ops Q (o :: rest) a (W.alloc (.cells news.toArray e)) :=
  BigFrame.wpList_want (by unfold Region.wanted; rw [hgd]) fun _ hK => wp_append1W s x E ho hs hown news nb hnb hx hl h1 hn hby hbase fun v' w' h2 h3 => hK _ _ (h v' w' h2 h3)
/-- A block lies as a world holds it. -/
def LaysAs (w : World) (b : Nat) (ob : Obj) : Prop := w.heap[b]? = some ob
theorem LaysAs.exts {w w' : World} {b : Nat} {ob : Obj} (h : LaysAs w b ob) (hE : w.Exts w') : LaysAs w' b ob := (hE.below.block b (Array.getElem?_eq_some_iff.1 h).1).trans h
theorem LaysAs.appended {v v' : Value} {b : Nat} {ob : Obj} (h : LaysAs W b ob) (ha : AppendedW W w' v v' base) (hne : v.ownBlock ≠ some b) : LaysAs w' b ob ∧ v'.ownBlock ≠ some b :=
  ⟨(ha.block b (Array.getElem?_eq_some_iff.1 h).1 (Ne.symm hne)).trans h, ha.beside b (Array.getElem?_eq_some_iff.1 h).1 hne⟩
theorem LaysAs.new (w : World) (o : Obj) : LaysAs (w.alloc o) w.heap.size o := heap_alloc_new w o
theorem LaysAs.lt {w : World} {b : Nat} {ob : Obj} (h : LaysAs w b ob) : b < w.heap.size := (Array.getElem?_eq_some_iff.1 h).1
theorem LaysAs.cell {w : World} {b : Nat} {cs : List Value} {t : TypeId} (h : LaysAs w b (.cells cs.toArray t (0, 0))) (i : Nat) (u : Value) (hu : cs[i]? = some u) : w.cell? ⟨b, i, none⟩ = some u := by
  unfold LaysAs at h
  simp [World.cell?, h, hu]
/-- Two arrays of two ints are the same where their ints are. -/
theorem run_equalIn_pair (w : World) (d : Nat) (t e : TypeId) (ht : P.underlying t = some (.array 2 e)) (he : P.underlying e = some (.int .i64)) (hsz : ∀ w, (sizeOf e).run P w = .ok 1 w) (a b c f : Int) :
    (Op.equalIn (d + 2) t (.agg #[.int .i64 a, .int .i64 b]) (.agg #[.int .i64 c, .int .i64 f])).run P w = .ok (a == c && b == f) w := by
  rw [Op.equalIn]
  simp only [Sem.run_bind, run_underlying ht, Result.andThen_ok, hsz, Std.Legacy.Range.forIn_eq_forIn_range', Std.Legacy.Range.size, Nat.sub_zero, Nat.add_sub_cancel, Nat.div_one]
  have px : ∀ (u v : Int), (part e #[.int .i64 u, .int .i64 v] (0 * 1)).run P w = .ok (.int .i64 u) w := fun u v => by simp [part, isAgg, run_underlying he]
  have py : ∀ (u v : Int), (part e #[.int .i64 u, .int .i64 v] (1 * 1)).run P w = .ok (.int .i64 v) w := fun u v => by simp [part, isAgg, run_underlying he]
  have pe : ∀ (u v : Int), (Op.equalIn (d + 1) e (.int .i64 u) (.int .i64 v)).run P w = .ok (u == v) w := fun u v => run_equalIn_int w d e .i64 .i64 _ _ he
  rw [show List.range' 0 2 1 = [0, 1] from rfl]
  simp only [List.forIn_cons, Sem.run_bind, px, pe, Result.andThen_ok]
  cases h1 : (a == c)
  · simp
  · cases h2 : (b == f) <;> simp [py, pe, h2]
end
end Go
