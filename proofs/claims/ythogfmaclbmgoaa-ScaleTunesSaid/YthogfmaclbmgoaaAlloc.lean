/-
  A region that draws its order, in which ONE block is made (a struct variable), at whatever time, among operations that read and calls whose callees leave an extension of the world; behind them a forced tail. One walk in the text's order, the new block's number a variable.
-/
import Derived.Test.YthogfmaclbmgoaaIn
namespace Go
open Go.RowKit

/-- A world that extends w, in a class. -/
structure ExtT (w : World) (T : World → Prop) where
  to : Ext w
  ok : T to.to
/-- A class of worlds that whatever extends one of its worlds belongs to. -/
def UpT (w : World) (T : World → Prop) : Prop := (∀ W W', T W → W.Exts W' → T W') ∧ Nonempty (ExtT w T)
theorem upT_all (w : World) : UpT w (fun _ => True) := ⟨fun _ _ h _ => h, ⟨⟨⟨w, Below.refl _ _⟩, trivial⟩⟩⟩
theorem upT_exts {w W : World} (h : w.Exts W) : UpT w (fun W' => W.Exts W') := by
  refine ⟨fun _ _ h1 h2 => h1.trans h2, ?_⟩
  obtain ⟨X, hX⟩ := h
  exact ⟨⟨X, by show W.Exts (w.ext X); rw [← hX]; exact World.Exts.refl W⟩⟩

theorem Calls.in_extT {P : Program} {f : FuncId} {args : Array Value} {w : World} {T : World → Prop} (hT : UpT w T) {X : ExtT w T} {v : Value}
    (h : Calls P f args (w.ext X.to) fun e w' => e = .returned v ∧ (w.ext X.to).Exts w') : Calls P f args (w.ext X.to) fun e w'' => e = .returned v ∧ ∃ Y : ExtT w T, w'' = w.ext Y.to :=
  h.mono fun _ w' ⟨he, hw⟩ => ⟨he, ⟨⟨w', X.to.le.trans (hw.below.mono X.to.le.size)⟩, hT.1 _ _ X.ok hw⟩, rfl⟩
theorem Calls.in_extT_eq {P : Program} {f : FuncId} {args : Array Value} {w : World} {T : World → Prop} (hT : UpT w T) {X : ExtT w T} {v v' : Value}
    (h : Calls P f args (w.ext X.to) fun e w' => e = .returned v ∧ (w.ext X.to).Exts w') (hv : v = v') : Calls P f args (w.ext X.to) fun e w'' => e = .returned v' ∧ ∃ Y : ExtT w T, w'' = w.ext Y.to :=
  hv ▸ Calls.in_extT hT h

/-- The operation that makes the block, as if the block's number were known. -/
def mvOp (oa : Oper) (p : Nat) : Oper := { oa with op := .move (.const (.pointer (some ⟨p, 0, none⟩))) }

/-- No two operations write one temporary. -/
def Region.dstsB (l : List Oper) : Bool := (List.range l.length).all fun i => (List.range i).all fun j => decide ((l[i]?).bind (·.dst) = none) || decide ((l[i]?).bind (·.dst) ≠ (l[j]?).bind (·.dst))
theorem dstsB_spec {l : List Oper} (h : Region.dstsB l = true) {i j : Nat} {oi oj : Oper} {d : Nat} (hi : l[i]? = some oi) (hj : l[j]? = some oj) (di : oi.dst = some d) (dj : oj.dst = some d) : i = j := by
  have key : ∀ (i j : Nat) (oi oj : Oper), l[i]? = some oi → l[j]? = some oj → oi.dst = some d → oj.dst = some d → ¬ j < i := by
    intro i j oi oj hi hj di dj hlt
    have h1 := List.all_eq_true.1 (List.all_eq_true.1 h i (List.mem_range.2 (lt_of_some' hi))) j (List.mem_range.2 hlt)
    rw [hi, hj] at h1
    simp [di, dj] at h1
  rcases Nat.lt_trichotomy i j with h1 | h1 | h1
  · exact absurd h1 (key j i oj oi hj hi dj di)
  · exact h1
  · exact absurd h1 (key i j oi oj hi hj di dj)
where lt_of_some' {l : List Oper} {i : Nat} {o : Oper} (h : l[i]? = some o) : i < l.length := (List.getElem?_eq_some_iff.1 h).1

theorem getD_set_same {listed : Array Bool} {i : Nat} (d : Bool) (h : i < listed.size) : (listed.setIfInBounds i true).getD i d = true := by
  rw [Array.getD_eq_getD_getElem?, Array.getElem?_setIfInBounds_self, if_pos h]; rfl
theorem getD_replicate_lt {m i : Nat} (h : i < m) : (Array.replicate m false).getD i true = false := by
  rw [Array.getD_eq_getD_getElem?, Array.getElem?_replicate, if_pos h]; rfl
theorem put_other {a : Act} {dst : Option Tmp} {v : Value} {d : Nat} (h : dst ≠ some d) : (a.put dst v).tmps[d]? = a.tmps[d]? := by
  cases dst with
  | none => rfl
  | some d' => simp only [Act.put]; rw [Array.getElem?_setIfInBounds_ne (fun e => h (by rw [e]))]
theorem put_same {a : Act} {v : Value} {d : Nat} : (a.put (some d) v).tmps[d]? = if d < a.tmps.size then some v else none := by
  simp only [Act.put]
  rw [Array.getElem?_setIfInBounds_self]
theorem put_eq {a : Act} {dst : Option Tmp} {v v' : Value} (h : ∀ d, dst = some d → (a.put dst v).tmps[d]? = (a.put dst v').tmps[d]?) : a.put dst v = a.put dst v' := by
  cases dst with
  | none => rfl
  | some d =>
    have h := h d rfl
    rw [put_same, put_same] at h
    by_cases hd : d < a.tmps.size
    · rw [if_pos hd, if_pos hd] at h; cases h; rfl
    · simp only [Act.put]
      rw [Array.setIfInBounds_eq_of_size_le (Nat.le_of_not_lt hd), Array.setIfInBounds_eq_of_size_le (Nat.le_of_not_lt hd)]

section
variable {P : Program} {md : Region.Mode} {ops : Array Oper} {C : World → Prop} {n : Nat} {L : Array Bool → Act → Prop} {A : Act}
/-- What a temporary holds that no later operation writes it holds at the end. -/
theorem HeadAny.val (hL : ∀ listed a, L listed a → a = A) : ∀ (f : Nat) (listed : Array Bool) (a : Act) (d : Nat), (∀ j oj, ops[j]? = some oj → listed.getD j true = false → oj.dst ≠ some d) →
    HeadAny P md ops C n L f listed a → a.tmps[d]? = A.tmps[d]?
  | 0, _, _, _, _, h => by rw [hL _ _ h]
  | f + 1, listed, a, d, hd, h => by
    obtain ⟨i, hi⟩ := List.exists_mem_of_ne_nil _ h.1
    obtain ⟨hun, o, ho, _⟩ := mem_ready.1 hi
    obtain ⟨v, _, hK⟩ := yieldsIn_of_qOp ho (h.2 i hi).2
    have := HeadAny.val hL f _ _ d (fun j oj hj hl => by
      refine hd j oj hj ?_
      by_cases hij : i = j
      · subst hij; exact hun
      · rwa [getD_set_ne true hij] at hl) hK
    rw [← this, put_other (hd i o ho hun)]
end

section
variable {P : Program} {md : Region.Mode} {l : List Oper} {ai n : Nat} {oa : Oper} {o : Obj} {w : World} {A : Nat → Act} {Q : Exit → Act → World → Prop} {g : Nat}

theorem set_get (hoa : l[ai]? = some oa) (p j : Nat) : (l.set ai (mvOp oa p))[j]? = if j = ai then some (mvOp oa p) else l[j]? := by
  have hlt : ai < l.length := (List.getElem?_eq_some_iff.1 hoa).1
  rw [List.getElem?_set]
  by_cases h : ai = j
  · subst h; simp [hlt]
  · rw [if_neg h, if_neg (Ne.symm h)]
theorem set_map {β : Type} (φ : Oper → β) (hφ : ∀ p, φ (mvOp oa p) = φ oa) (hoa : l[ai]? = some oa) (p j : Nat) : ((l.set ai (mvOp oa p)).toArray[j]?).map φ = (l.toArray[j]?).map φ := by
  simp only [List.getElem?_toArray]
  rw [set_get hoa]
  by_cases h : j = ai
  · subst h; rw [if_pos rfl, hoa, Option.map_some, Option.map_some, hφ]
  · rw [if_neg h]
theorem ready_set (hoa : l[ai]? = some oa) (p : Nat) (listed : Array Bool) : Region.ready md (l.set ai (mvOp oa p)).toArray listed = Region.ready md l.toArray listed := by
  unfold Region.ready
  simp only [List.size_toArray, List.length_set]
  congr 1
  funext i
  rw [set_map (fun o => o.after.all fun e => !Region.binds md e || listed.getD e.on false) (fun _ => rfl) hoa]
theorem yielded_set (hoa : l[ai]? = some oa) (p : Nat) (tmps : Array Value) : yielded (l.set ai (mvOp oa p)).toArray tmps = yielded l.toArray tmps := by
  funext j
  unfold yielded
  have h := set_map (fun o => o.dst) (fun _ => rfl) hoa p j
  have e : ∀ x : Option Oper, x.bind (·.dst) = (x.map (·.dst)).join := fun x => by cases x <;> rfl
  rw [e, e, h]
theorem seqB_set (hoa : l[ai]? = some oa) (p : Nat) : ∀ (g k : Nat) (listed : Array Bool), Region.seqB md (l.set ai (mvOp oa p)).toArray g k listed = Region.seqB md l.toArray g k listed
  | 0, _, _ => by simp only [Region.seqB, ready_set hoa]
  | g + 1, k, listed => by simp only [Region.seqB, ready_set hoa, seqB_set hoa p g]

/-- What the walk has shown, at each class of worlds: whatever order the head's operations come up in. -/
abbrev HeadT (P : Program) (md : Region.Mode) (l : List Oper) (ai n : Nat) (oa : Oper) (w : World) (A : Nat → Act) (g p : Nat) (T : World → Prop) : Nat → Array Bool → Act → Prop :=
  HeadAny P md (l.set ai (mvOp oa p)).toArray (fun W => ∃ X : ExtT w T, W = w.ext X.to) n (fun listed a => Region.seqB md (l.set ai (mvOp oa p)).toArray g n listed = true ∧ a = A p)

theorem HeadT.put_val (hD : Region.dstsB l = true) (hoa : l[ai]? = some oa) {p : Nat} {T : World → Prop} {f i d : Nat} {oi : Oper} {listed : Array Bool} {a : Act} {v : Value} (hi : l[i]? = some oi) (hin : i < listed.size)
    (hd : oi.dst = some d) (h : HeadT P md l ai n oa w A g p T f (listed.setIfInBounds i true) (a.put oi.dst v)) : (a.put oi.dst v).tmps[d]? = (A p).tmps[d]? := by
  refine HeadAny.val (A := A p) (fun _ _ h => h.2) f _ _ d (fun j oj hj hl e => ?_) h
  have hj' : ∃ oj', l[j]? = some oj' ∧ oj'.dst = some d := by
    rw [List.getElem?_toArray, set_get hoa] at hj
    by_cases hja : j = ai
    · subst hja; rw [if_pos rfl] at hj; cases hj; exact ⟨oa, hoa, e⟩
    · rw [if_neg hja] at hj; exact ⟨oj, hj, e⟩
  obtain ⟨oj', hj1, hj2⟩ := hj'
  obtain rfl := dstsB_spec hD hi hj1 hd hj2
  rw [getD_set_same true hin] at hl
  cases hl

theorem HeadT.any1 (hD : Region.dstsB l = true) (hoa : l[ai]? = some oa) {p : Nat} (hg : g = l.length - n) (hn : n ≤ l.length)
    (htail : ∀ W, w.Exts W → W.heap[p]? = some o → wpList P l.toArray Q (l.drop n) (A p) W) :
    ∀ (f : Nat) (listed : Array Bool) (a : Act) (W : World), listed.size = l.length → listed.getD ai true = true → w.Exts W → W.heap[p]? = some o →
      (∀ T, UpT w T → HeadT P md l ai n oa w A g p T f listed a) → wpAny P md l.toArray Q (f + g) listed a W
  | 0, listed, a, W, _, _, hE, ho, h => by
    obtain ⟨h1, rfl⟩ := h (fun _ => True) (upT_all w)
    rw [seqB_set hoa] at h1
    have h2 := wpAny_of_seq (md := md) (Q' := Q) (l.drop n) n listed (A p) W (fun j => by simp [List.getElem?_drop]) (by rw [List.length_drop, ← hg]; exact h1) (htail W hE ho)
    rw [List.length_drop, ← hg] at h2
    rw [Nat.zero_add]; exact h2
  | f + 1, listed, a, W, hsz, hl, hE, ho, h => by
    rw [Nat.add_right_comm]
    have hne := (h (fun _ => True) (upT_all w)).1
    rw [ready_set hoa] at hne
    refine ⟨fun h0 => absurd h0 hne, fun i hi => ?_⟩
    obtain ⟨hun, oi, hoi, _⟩ := mem_ready.1 hi
    have hia : i ≠ ai := fun e => by rw [e, hl] at hun; cases hun
    have hoi' : l[i]? = some oi := by simpa using hoi
    have hin : i < listed.size := by rw [hsz]; exact (List.getElem?_eq_some_iff.1 hoi').1
    have hset : (l.set ai (mvOp oa p)).toArray[i]? = some oi := by rw [List.getElem?_toArray, set_get hoa, if_neg hia, hoi']
    have each : ∀ T, UpT w T → ∃ v, YieldsIn P (l.set ai (mvOp oa p)).toArray (fun W => ∃ X : ExtT w T, W = w.ext X.to) oi v a ∧ HeadT P md l ai n oa w A g p T f (listed.setIfInBounds i true) (a.put oi.dst v) := fun T hT =>
      yieldsIn_of_qOp hset ((h T hT).2 i (by rw [ready_set hoa]; exact hi)).2
    have hup := upT_exts hE
    obtain ⟨v, hy, hv⟩ := each _ hup
    have hall : ∀ T, UpT w T → HeadT P md l ai n oa w A g p T f (listed.setIfInBounds i true) (a.put oi.dst v) := fun T hT => by
      obtain ⟨v', _, hv'⟩ := each T hT
      rw [put_eq (v := v) (v' := v') fun d hd => (HeadT.put_val hD hoa hoi' hin hd hv).trans (HeadT.put_val hD hoa hoi' hin hd hv').symm]
      exact hv'
    have hy' : YieldsIn P l.toArray (fun W' => ∃ X : ExtT w (fun W' => W.Exts W'), W' = w.ext X.to) oi v a := by
      unfold YieldsIn at hy ⊢
      rw [yielded_set hoa] at hy
      exact hy
    obtain ⟨XW, hXW⟩ := hE
    refine wpOp_of_qOp (C := fun W' => ∃ X : ExtT w (fun W' => W.Exts W'), W' = w.ext X.to) ⟨⟨XW, by rw [hXW]; exact World.Exts.refl _⟩, hXW⟩ ?_ (YieldsIn.qOp (K := fun a' => a' = a.put oi.dst v) hoi hy' rfl)
    rintro a' W' ⟨X, rfl⟩ rfl
    have hW : W.Exts (w.ext X.to) := X.ok
    have hlt : p < W.heap.size := (Array.getElem?_eq_some_iff.1 ho).1
    exact HeadT.any1 hD hoa hg hn htail f _ _ _ (by simpa using hsz) (by rw [getD_set_ne true hia]; exact hl) ⟨X.to, rfl⟩ ((hW.below.block p hlt).trans ho) hall

theorem HeadT.any0 (hD : Region.dstsB l = true) (hoa : l[ai]? = some oa) (hgu : oa.guard = none) (haf : oa.after = #[]) (hai : ai < n) (hg : g = l.length - n) (hn : n ≤ l.length)
    (hA0 : ∀ (a : Act) (W : World), (execOp a.eval oa).run P W = .ok (.value (.pointer (some ⟨W.heap.size, 0, none⟩))) (W.alloc o)) (hAp : ∀ p, A p = (A 0).put oa.dst (.pointer (some ⟨p, 0, none⟩)))
    (htail : ∀ p W, w.heap.size ≤ p → w.Exts W → W.heap[p]? = some o → wpList P l.toArray Q (l.drop n) (A p) W) :
    ∀ (f : Nat) (listed : Array Bool) (a : Act) (W : World), listed.size = l.length → listed.getD ai true = false → w.Exts W →
      (∀ p, w.heap.size ≤ p → ∀ T, UpT w T → HeadT P md l ai n oa w A g p T f listed a) → wpAny P md l.toArray Q (f + g) listed a W
  | 0, listed, a, W, _, hl, _, h => by
    obtain ⟨h1, _⟩ := h w.heap.size (Nat.le_refl _) (fun _ => True) (upT_all w)
    have := seqB_ready h1 ai (by rw [ready_set hoa]; exact mem_ready.2 ⟨hl, oa, by simpa using hoa, fun e he => by rw [haf] at he; simp at he⟩)
    omega
  | f + 1, listed, a, W, hsz, hl, hE, h => by
    rw [Nat.add_right_comm]
    have hne := (h w.heap.size (Nat.le_refl _) (fun _ => True) (upT_all w)).1
    rw [ready_set hoa] at hne
    refine ⟨fun h0 => absurd h0 hne, fun i hi => ?_⟩
    obtain ⟨hun, oi, hoi, _⟩ := mem_ready.1 hi
    have hoi' : l[i]? = some oi := by simpa using hoi
    have hin : i < listed.size := by rw [hsz]; exact (List.getElem?_eq_some_iff.1 hoi').1
    by_cases hia : i = ai
    · subst hia
      obtain rfl : oi = oa := by rw [hoa] at hoi'; cases hoi'; rfl
      unfold wpOp
      simp only [hoi]
      rw [if_pos (by unfold Region.wanted; rw [hgu])]
      refine .inl ?_
      unfold Oper.wp
      rw [hA0, Oper.upon_value]
      have hle : w.heap.size ≤ W.heap.size := hE.size
      have hset : (l.set i (mvOp oi W.heap.size)).toArray[i]? = some (mvOp oi W.heap.size) := by rw [List.getElem?_toArray, set_get hoa, if_pos rfl]
      refine HeadT.any1 hD hoa hg hn (fun W' => htail W.heap.size W' hle) f _ _ _ (by simpa using hsz) (getD_set_same true hin) (hE.alloc o) (World.alloc_heap_new W o) (fun T hT => ?_)
      obtain ⟨v', _, hv'⟩ := yieldsIn_of_qOp hset ((h W.heap.size hle T hT).2 i (by rw [ready_set hoa]; exact hi)).2
      have hv'' : HeadT P md l i n oi w A g W.heap.size T f (listed.setIfInBounds i true) (a.put oi.dst v') := hv'
      rw [put_eq (v := .pointer (some ⟨W.heap.size, 0, none⟩)) (v' := v') fun d hd => ?_]
      · exact hv''
      · have h1 := HeadT.put_val hD hoa hoi' hin hd hv''
        rw [hAp] at h1
        rw [h1, hd, put_same, put_same]
        rw [hd, put_same, put_same] at h1
        by_cases hda : d < a.tmps.size
        · rw [if_pos hda] at h1 ⊢
          by_cases hdA : d < (A 0).tmps.size
          · rw [if_pos hdA]
          · rw [if_neg hdA] at h1; cases h1
        · rw [if_neg hda] at h1 ⊢
          exact h1
    · have hset : ∀ p, (l.set ai (mvOp oa p)).toArray[i]? = some oi := fun p => by rw [List.getElem?_toArray, set_get hoa, if_neg hia, hoi']
      have each : ∀ p, w.heap.size ≤ p → ∀ T, UpT w T → ∃ v, YieldsIn P (l.set ai (mvOp oa p)).toArray (fun W => ∃ X : ExtT w T, W = w.ext X.to) oi v a ∧ HeadT P md l ai n oa w A g p T f (listed.setIfInBounds i true) (a.put oi.dst v) := fun p hp T hT =>
        yieldsIn_of_qOp (hset p) ((h p hp T hT).2 i (by rw [ready_set hoa]; exact hi)).2
      have hup := upT_exts hE
      obtain ⟨v, hy, hv⟩ := each w.heap.size (Nat.le_refl _) _ hup
      have hA2 : ∀ p d, oi.dst = some d → (A p).tmps[d]? = (A 0).tmps[d]? := fun p d hd => by
        rw [hAp, put_other (fun e => hia (dstsB_spec hD hoi' hoa hd e))]
      have hall : ∀ p, w.heap.size ≤ p → ∀ T, UpT w T → HeadT P md l ai n oa w A g p T f (listed.setIfInBounds i true) (a.put oi.dst v) := fun p hp T hT => by
        obtain ⟨v', _, hv'⟩ := each p hp T hT
        rw [put_eq (v := v) (v' := v') fun d hd => (HeadT.put_val hD hoa hoi' hin hd hv).trans ((hA2 _ d hd).trans ((hA2 p d hd).symm.trans (HeadT.put_val hD hoa hoi' hin hd hv').symm))]
        exact hv'
      have hy' : YieldsIn P l.toArray (fun W' => ∃ X : ExtT w (fun W' => W.Exts W'), W' = w.ext X.to) oi v a := by
        unfold YieldsIn at hy ⊢
        rw [yielded_set hoa] at hy
        exact hy
      obtain ⟨XW, hXW⟩ := hE
      refine wpOp_of_qOp (C := fun W' => ∃ X : ExtT w (fun W' => W.Exts W'), W' = w.ext X.to) ⟨⟨XW, by rw [hXW]; exact World.Exts.refl _⟩, hXW⟩ ?_ (YieldsIn.qOp (K := fun a' => a' = a.put oi.dst v) hoi hy' rfl)
      rintro a' W' ⟨X, rfl⟩ rfl
      exact HeadT.any0 hD hoa hgu haf hai hg hn hA0 hAp htail f _ _ _ (by simpa using hsz) (by rw [getD_set_ne true hia]; exact hl) ⟨X.to, rfl⟩ hall

/-- One block made among quiet operations, then a forced tail. -/
theorem wpAny_alloc {a : Act} (n ai : Nat) (oa : Oper) (o : Obj) (A : Nat → Act) (hB : ∀ p, Region.lexTailB .any (l.set ai (mvOp oa p)).toArray n = true) (hD : Region.dstsB l = true) (hoa : l[ai]? = some oa) (hgu : oa.guard = none) (haf : oa.after = #[]) (hai : ai < n)
    (hA0 : ∀ (a : Act) (W : World), (execOp a.eval oa).run P W = .ok (.value (.pointer (some ⟨W.heap.size, 0, none⟩))) (W.alloc o)) (hAp : ∀ p, A p = (A 0).put oa.dst (.pointer (some ⟨p, 0, none⟩)))
    (hwalk : ∀ p, w.heap.size ≤ p → ∀ T, UpT w T → ∀ L : Act → Prop, L (A p) → wpQuiet P (l.set ai (mvOp oa p)).toArray (fun W => ∃ X : ExtT w T, W = w.ext X.to) L ((l.set ai (mvOp oa p)).take n) a)
    (htail : ∀ p W, w.heap.size ≤ p → w.Exts W → W.heap[p]? = some o → wpList P l.toArray Q (l.drop n) (A p) W) :
    wpAny P .any l.toArray Q l.toArray.size (Array.replicate l.toArray.size false) a { w with drawn := w.drawn + 1 } := by
  have hB0 := hB 0
  simp only [Region.lexTailB, Bool.and_eq_true, decide_eq_true_eq] at hB0
  have hn' : n < l.length := by simpa using hB0.1.1.1.2
  have hgl : ∀ p, (l.set ai (mvOp oa p)).toArray.size - n = l.length - n := fun p => by simp
  have htl : ∀ p, ((l.set ai (mvOp oa p)).take n).length = n := fun p => by simp; omega
  have key := HeadT.any0 (md := .any) (P := P) (w := w) (A := A) (g := l.length - n) hD hoa hgu haf hai rfl (by omega) hA0 hAp htail n (Array.replicate l.toArray.size false) a { w with drawn := w.drawn + 1 } (by simp) (getD_replicate_lt (by simpa using (List.getElem?_eq_some_iff.1 hoa).1)) ⟨⟨w.drew, (Below.refl _ _).drew⟩, rfl⟩ (fun p hp T hT => ?_)
  · rw [show n + (l.length - n) = l.toArray.size by simp; omega] at key
    exact key
  · have hBp := hB p
    simp only [Region.lexTailB, Bool.and_eq_true, decide_eq_true_eq] at hBp
    obtain ⟨⟨⟨⟨hsel, hn⟩, hs⟩, hc⟩, hlex⟩ := hBp
    have inv0 : HeadInv .any (l.set ai (mvOp oa p)).toArray n (Array.replicate l.toArray.size false) :=
      ⟨by simp, fun j oj _ hl => (by rw [getD_replicate_false] at hl; cases hl), fun t _ ht => getD_in (by simpa using ht) (getD_replicate_false _ _)⟩
    have H := HeadAny.lex (md := .any) (g := l.length - n) hsel hs hc hn ((l.set ai (mvOp oa p)).take n) 0 _ a (fun j hj => by rw [htl] at hj; simp [hj]) (by simpa using htl p) inv0 (by rw [htl]; rw [hgl] at hlex; simpa using hlex) (hwalk p hp T hT (fun a' => a' = A p) rfl)
    rw [htl] at H
    exact H
end

theorem wp_region_alloc {P : Program} {id : Nat} {Q : Exit → Act → World → Prop} {a : Act} {w : World} {l : List Oper} (n ai : Nat) (oa : Oper) (o : Obj) (hm : P.follows .mixedOrders = true) (hB : ∀ p, Region.lexTailB .any (l.set ai (mvOp oa p)).toArray n = true) (hD : Region.dstsB l = true) (hoa : l[ai]? = some oa) (hgu : oa.guard = none) (haf : oa.after = #[]) (hai : ai < n)
    (hA0 : ∀ (a : Act) (W : World), (execOp a.eval oa).run P W = .ok (.value (.pointer (some ⟨W.heap.size, 0, none⟩))) (W.alloc o)) 
    (h : ∃ A : Nat → Act, (∀ p, w.heap.size ≤ p → ∀ T, UpT w T → ∀ L : Act → Prop, L (A p) → wpQuiet P (l.set ai (mvOp oa p)).toArray (fun W => ∃ X : ExtT w T, W = w.ext X.to) L ((l.set ai (mvOp oa p)).take n) a) ∧ (∀ p, A p = (A 0).put oa.dst (.pointer (some ⟨p, 0, none⟩))) ∧
      (∀ p W, w.heap.size ≤ p → w.Exts W → W.heap[p]? = some o → wpList P l.toArray Q (l.drop n) (A p) W)) : (Code.region id l.toArray true).wp P Q a w :=
  let ⟨A, hwalk, hAp, htail⟩ := h
  wp_region_any hm (wpAny_alloc n ai oa o A hB hD hoa hgu haf hai hA0 hAp hwalk htail)

theorem wpIn_region_alloc_round {P : Program} {id lp m : Nat} {Q : Exit → Act → World → Prop} {a : Act} {w : World} {l : List Oper} (n ai : Nat) (oa : Oper) (o : Obj) (hm : P.follows .mixedOrders = true) (hB : ∀ p, Region.lexTailB .any (l.set ai (mvOp oa p)).toArray n = true) (hD : Region.dstsB l = true) (hoa : l[ai]? = some oa) (hgu : oa.guard = none) (haf : oa.after = #[]) (hai : ai < n) (hd : Region.noDefer l = true)
    (hA0 : ∀ (a : Act) (W : World), (execOp a.eval oa).run P W = .ok (.value (.pointer (some ⟨W.heap.size, 0, none⟩))) (W.alloc o)) 
    (h : ∃ A : Nat → Act, (∀ p, w.heap.size ≤ p → ∀ T, UpT w T → ∀ L : Act → Prop, L (A p) → wpQuiet P (l.set ai (mvOp oa p)).toArray (fun W => ∃ X : ExtT w T, W = w.ext X.to) L ((l.set ai (mvOp oa p)).take n) a) ∧ (∀ p, A p = (A 0).put oa.dst (.pointer (some ⟨p, 0, none⟩))) ∧
      (∀ p W, w.heap.size ≤ p → w.Exts W → W.heap[p]? = some o → wpList P l.toArray (Exit.only (Q .normal)) (l.drop n) (A p) W)) : (Code.region id l.toArray true).wpIn (Fence.wide.inRound lp) m P Q a w :=
  let ⟨A, hwalk, hAp, htail⟩ := h
  wpIn_region_any hm (wpAnyIn_round_of_wpAny (noDefer_spec hd) _ _ _ _ (wpAny_alloc n ai oa o A hB hD hoa hgu haf hai hA0 hAp hwalk htail))
#print axioms wpIn_region_alloc_round
end Go
