/-
  Several texts in one: see the heads of its parts.
-/
import Derived.Test.YtilmniopollbiaaGreatDoorTk
import Derived.Test.YtilmniopollbiaaGreatDoorRf
import Derived.Test.YtilmniopollbiaaGreatDoorBt
import Derived.Test.YtilmniopollbiaaGreatDoorPl
import Derived.Test.YtilmniopollbiaaGreatDoorScDT
import Derived.Maps.RangeWalk

/-
  Walks of the reference of layer 4: a twin of a bay: rows of an own row are written anew.
-/
namespace Go
open Go.RowKit

/-- The cells of an own block, from its start, all writable. -/
structure BlkAt (w : World) (g : Nat) (xs : List Value) : Prop where
  cell : ∀ q u, xs[q]? = some u → w.cell? ⟨g, q, none⟩ = some u
  free : ∀ q, q < xs.length → w.frozen? ⟨g, q, none⟩ = false
theorem BlkAt.lays {w : World} {g : Nat} {xs : List Value} (h : BlkAt w g xs) (h0 : 0 < xs.length) : Lays w g := Lays.of_cell (h.cell 0 xs[0] (by simp [h0]))
theorem BlkAt.exts {w w' : World} {g : Nat} {xs : List Value} (h : BlkAt w g xs) (hE : w.Exts w') : BlkAt w' g xs := by
  obtain ⟨X, rfl⟩ := hE
  refine ⟨fun q u hq => ?_, fun q hq => ?_⟩
  · haveI := h.lays (by have := (List.getElem?_eq_some_iff.1 hq).1; omega)
    rw [World.cell?_ext]; exact h.cell q u hq
  · haveI := h.lays (by omega)
    rw [World.frozen?_ext]; exact h.free q hq
theorem BlkAt.set {w : World} {g : Nat} {xs : List Value} (h : BlkAt w g xs) {p : Nat} (hp : p < xs.length) (u : Value) : BlkAt (w.setCell ⟨g, p, none⟩ u) g (xs.set p u) := by
  refine ⟨fun q v hq => ?_, fun q hq => ?_⟩
  · by_cases hpq : p = q
    · subst hpq
      rw [List.getElem?_set_self hp] at hq
      cases hq
      have h1 := h.cell p xs[p] (by simp [hp])
      exact World.cell?_setCell_same w _ u h1
    · rw [List.getElem?_set_ne hpq] at hq
      rw [World.cell?_setCell_other w _ _ u (fun e => hpq (by cases e; rfl))]
      exact h.cell q v hq
  · simp at hq
    simpa using h.free q hq
theorem BlkAt.set_other {w : World} {g : Nat} {xs : List Value} (h : BlkAt w g xs) {a : Addr} (ha : a.block ≠ g) (u : Value) : BlkAt (w.setCell a u) g xs := by
  refine ⟨fun q v hq => ?_, fun q hq => ?_⟩
  · rw [World.cell?_setCell_other w _ _ u (fun e => ha (by rw [e]))]
    exact h.cell q v hq
  · simpa using h.free q hq
theorem BlkAt.of_owns {w : World} {base e size n g c : Nat} {xs : List Value} (h : w.ownsRow base e size (.slice (some ⟨g, 0, none⟩) n c) n xs) : BlkAt w g xs := by
  rcases h.2 with ⟨h0, _⟩ | ⟨g', cap, cur, hv, _, hg, hnc, _, hcs, htk⟩
  · cases h0
  · cases hv
    have hx : ∀ (q : Nat) (u : Value), xs[q]? = some u → cur[q]? = some u := by
      intro q u hq
      rw [← htk] at hq
      have hlt : q < n * size := by
        have := (List.getElem?_eq_some_iff.1 hq).1
        rw [List.length_take] at this; omega
      rw [List.getElem?_take_of_lt hlt] at hq
      simpa using hq
    refine ⟨fun q u hq => ?_, fun q hq => ?_⟩
    · simp [World.cell?, hg, hx q u hq]
    · simp [World.frozen?, hg]

theorem ownsRow_lower {w : World} {base base' size n : Nat} {e : TypeId} {v : Value} {xs : List Value} (h : w.ownsRow base e size v n xs) (hb : base' ≤ base) : w.ownsRow base' e size v n xs :=
  ⟨h.1, h.2.elim Or.inl (fun ⟨g, cap, cur, hv, hg, r⟩ => Or.inr ⟨g, cap, cur, hv, Nat.le_trans hb hg, r⟩)⟩

theorem flat_row {α : Type} {enc : α → List Value} {size : Nat} (hk : ∀ y, (enc y).length = size) : ∀ {l : List α} {i : Nat} {x : α}, l[i]? = some x → ∀ {j : Nat} {u : Value}, (enc x)[j]? = some u → (l.flatMap enc)[i * size + j]? = some u
  | y :: l, 0, x, hx, j, u, hu => by
    simp at hx; subst hx
    rw [List.flatMap_cons, Nat.zero_mul, Nat.zero_add, List.getElem?_append_left (List.getElem?_eq_some_iff.1 hu).1]; exact hu
  | y :: l, i + 1, x, hx, j, u, hu => by
    rw [List.flatMap_cons, List.getElem?_append_right (by rw [hk, Nat.succ_mul]; omega), show (i + 1) * size + j - (enc y).length = i * size + j from by rw [hk, Nat.succ_mul]; omega]
    exact flat_row hk (by simpa using hx) hu
/-- A row that lies in none of the blocks G. -/
structure RowOff {α : Type} (enc : α → List Value) (k : Nat) (w : World) (G : List Nat) (v : Value) (xs : List α) : Prop where
  row : IsRow enc k w v xs
  off : xs = [] ∨ ∀ g ∈ G, v.ownBlock ≠ some g
theorem RowOff.exts {α : Type} {enc : α → List Value} {k : Nat} {G : List Nat} {w w' : World} {v : Value} {xs : List α} (h : RowOff enc k w G v xs) (hE : w.Exts w') : RowOff enc k w' G v xs := ⟨h.row.mono hE, h.off⟩
theorem RowOff.set {α : Type} {enc : α → List Value} {k : Nat} {G : List Nat} {w : World} {v : Value} {xs : List α} (h : RowOff enc k w G v xs) {a : Addr} (hg : a.block ∈ G) (u : Value) : RowOff enc k (w.setCell a u) G v xs := by
  refine ⟨?_, h.off⟩
  obtain ⟨p, b, o, cap, rfl, hm, hp, hc⟩ := h.row.ex
  refine ⟨p, b, o, cap, rfl, hm, fun h0 => ⟨(hp h0).1, by haveI := (hp h0).2; infer_instance⟩, fun i x hx j u' hu => ?_⟩
  have h0 : 0 < xs.length := by have := (List.getElem?_eq_some_iff.1 hx).1; omega
  have hb : a.block ≠ b := fun e => by
    rcases h.off with h1 | h1
    · rw [h1] at h0; simp at h0
    · have h2 := h1 _ hg
      rw [(hp h0).1, e] at h2; exact h2 rfl
  rw [World.cell?_setCell_other w _ _ u (fun e => hb (by rw [e]))]
  exact hc i x hx j u' hu
theorem RowOff.old {α : Type} {enc : α → List Value} {k : Nat} {G : List Nat} {w w' : World} {v : Value} {xs : List α} (h : IsRow enc k w v xs) (hE : w.Exts w') (hg : ∀ g ∈ G, w.heap.size ≤ g) : RowOff enc k w' G v xs := by
  refine ⟨h.mono hE, ?_⟩
  obtain ⟨p, b, o, cap, rfl, hm, hp, hc⟩ := h.ex
  rcases Nat.eq_zero_or_pos xs.length with h0 | h0
  · exact .inl (List.length_eq_zero_iff.1 h0)
  · have := (hp h0).2.lt
    rw [(hp h0).1]
    exact .inr (fun g h1 e => by have := hg g h1; simp [Value.ownBlock] at e; omega)
theorem RowOff.own {α : Type} {enc : α → List Value} {k base e : Nat} {G : List Nat} {w : World} {v : Value} {xs : List α} (h : w.ownsRow base e k v xs.length (xs.flatMap enc)) (hk : ∀ y ∈ xs, (enc y).length = k) (hg : ∀ g ∈ G, g < base) : RowOff enc k w G v xs := by
  refine ⟨IsRow.of_owns h hk, .inr fun g h1 e => ?_⟩
  have := (h.lt g e).1
  have := hg g h1
  omega
/-- A row, from the cells of its block. -/
theorem IsRow.of_blk {α : Type} {enc : α → List Value} {k g c : Nat} {w : World} {xs : List α} (hk : ∀ y, (enc y).length = k) (h : BlkAt w g (xs.flatMap enc)) (hl : Lays w g) (hc : xs.length ≤ c ∧ c ≤ 9223372036854775807) : IsRow enc k w (.slice (some ⟨g, 0, none⟩) xs.length c) xs :=
  ⟨_, g, 0, c, rfl, hc, fun _ => ⟨rfl, hl⟩, fun i x hx j u hu => by rw [Nat.zero_add]; exact h.cell _ _ (flat_row hk hx hu)⟩
theorem IsRow.nil_any {α : Type} {enc : α → List Value} {k : Nat} {w w' : World} {v : Value} (h : IsRow enc k w v []) : IsRow enc k w' v [] := by
  obtain ⟨p, b, o, cap, rfl, hm, _, _⟩ := h.ex
  exact ⟨p, b, o, cap, rfl, hm, fun h0 => absurd h0 (Nat.lt_irrefl 0), fun i x hx => by simp at hx⟩
theorem map_set_same {α β : Type} {f : α → β} {l : List α} {i : Nat} {x y : α} (h : l[i]? = some x) (e : f y = f x) : (l.set i y).map f = l.map f := by
  obtain ⟨hi, hx⟩ := List.getElem?_eq_some_iff.1 h
  refine List.ext_getElem? fun j => ?_
  rw [List.getElem?_map, List.getElem?_map]
  by_cases hj : i = j
  · subst hj; rw [List.getElem?_set_self hi, h]; simp [e]
  · rw [List.getElem?_set_ne hj]
theorem set_tail {A Z : List Value} {n : Nat} (hA : A.length = n) (j : Nat) (u : Value) : (A ++ Z).set (n + j) u = A ++ Z.set j u := by
  rw [List.set_append_right _ _ (by omega)]
  congr 2
  omega
theorem set_tail0 {A Z : List Value} {n : Nat} (hA : A.length = n) (u : Value) : (A ++ Z).set n u = A ++ Z.set 0 u := set_tail hA 0 u
/-- Seven cells of a flat list are written anew. -/
theorem flat_put7 {α : Type} {enc : α → List Value} (hk : ∀ y, (enc y).length = 7) {l : List α} {i : Nat} {x y : α} (hx : l[i]? = some x) {a b c d e f g : Value} (hy : enc y = [a, b, c, d, e, f, g]) :
    (l.set i y).flatMap enc = (((((((l.flatMap enc).set (i * 7) a).set (i * 7 + 1) b).set (i * 7 + 2) c).set (i * 7 + 3) d).set (i * 7 + 4) e).set (i * 7 + 5) f).set (i * 7 + 6) g := by
  obtain ⟨hi, hxx⟩ := List.getElem?_eq_some_iff.1 hx
  have hl : l = l.take i ++ (x :: l.drop (i + 1)) := by rw [← hxx, ← List.drop_eq_getElem_cons hi, List.take_append_drop]
  have hA : ((l.take i).flatMap enc).length = i * 7 := by rw [flat_len _ (fun y _ => hk y), List.length_take, Nat.min_eq_left (by omega)]
  have hflat : l.flatMap enc = (l.take i).flatMap enc ++ (enc x ++ (l.drop (i + 1)).flatMap enc) := by
    conv => lhs; rw [hl]
    rw [List.flatMap_append, List.flatMap_cons]
  obtain ⟨a', b', c', d', e', f', g', he⟩ : ∃ a b c d e f g, enc x = [a, b, c, d, e, f, g] := by
    have := hk x
    match h : enc x, this with
    | [a, b, c, d, e, f, g], _ => exact ⟨_, _, _, _, _, _, _, rfl⟩
  rw [List.set_eq_take_append_cons_drop, if_pos hi, List.flatMap_append, List.flatMap_cons, hy, hflat, he]
  rw [set_tail0 hA, set_tail hA, set_tail hA, set_tail hA, set_tail hA, set_tail hA, set_tail hA]
  rfl

end Go
namespace Go.Proofs.YtilmniopollbiaaGreatDoor
open Go.RowKit Kr
set_option linter.unusedSimpArgs false

set_option maxHeartbeats 1000000 in
theorem r04_TwinScale_own (s : Scale) (tv : Value) (w : World) (hrow : IsRow (fun t : Kr.Trial => [.int .i64 t.weight, .int .i64 t.shown]) 2 w tv s.trials) (hlen : s.trials.length ≤ 1000) :
    Calls Tryz.prog 42 #[.agg #[.int .i64 s.id, .int .i64 s.step, .int .i64 s.gain.lo, .int .i64 s.gain.hi, .int .i64 s.off.lo, .int .i64 s.off.hi, tv]] w fun e w' => ∃ v, e = .returned (.agg #[.int .i64 s.id, .int .i64 s.step, .int .i64 s.gain.lo, .int .i64 s.gain.hi, .int .i64 s.off.lo, .int .i64 s.off.hi, v]) ∧ w'.ownsRow w.heap.size 117 2 v s.trials.length (s.trials.flatMap fun t => [.int .i64 t.weight, .int .i64 t.shown]) ∧ w.Exts w' := by
  obtain ⟨p, cap, rfl⟩ := hrow.len
  have HR := Lib.hid hrow
  clear hrow
  go_enter Tryz.func42, Tryz.ntmps42
  have hown : (((w.alloc (.cells #[.int .i64 s.id, .int .i64 s.step, .int .i64 s.gain.lo, .int .i64 s.gain.hi, .int .i64 s.off.lo, .int .i64 s.off.hi, .slice p s.trials.length cap] 94)).alloc (.cells #[.int .i64 0, .int .i64 0, .int .i64 0, .int .i64 0, .int .i64 0, .int .i64 0, .slice none 0 0] 94)).alloc (.cells #[] 117)).ownsRow (w.heap.size + 1 + 1) 117 2 (.slice (some ⟨w.heap.size + 1 + 1, 0, none⟩) 0 0) 0 [] := ownsRow_new _ _ _ (by simp)
  have HOW := Lib.hid hown
  clear hown
  go_wp2_with (at_builtin; refine wpList_append_row (.tmp 3) (.tmp 5) elem_Trial rfl rfl rfl HOW.out rfl (HR.out.mono exq) (fun _ _ => rfl) (fun _ _ u hu => by simp at hu; rcases hu with rfl | rfl <;> rfl) (by omega) (by simp) ?_)
  intro v' w' hown' happ
  obtain ⟨X, rfl⟩ := happ.exts ((w.alloc (.cells #[.int .i64 s.id, .int .i64 s.step, .int .i64 s.gain.lo, .int .i64 s.gain.hi, .int .i64 s.off.lo, .int .i64 s.off.hi, .slice p s.trials.length cap] 94)).alloc (.cells #[.int .i64 0, .int .i64 0, .int .i64 0, .int .i64 0, .int .i64 0, .int .i64 0, .slice none 0 0] 94)) exq (by simp)
  have hrow' : IsRow (fun t : Kr.Trial => [.int .i64 t.weight, .int .i64 t.shown]) 2 _ v' s.trials := IsRow.of_owns (by simpa using hown') (fun _ _ => rfl)
  obtain ⟨q, cp, rfl⟩ := hrow'.len
  have HO2 := Lib.hid hown'
  clear hown'
  clear hrow' happ
  go_wp2_with fail
  refine bodyPost_ret (v := .agg #[.int .i64 s.id, .int .i64 s.step, .int .i64 s.gain.lo, .int .i64 s.gain.hi, .int .i64 s.off.lo, .int .i64 s.off.hi, .slice q s.trials.length cp]) (by simp [results, Tryz.results42, go_sem]) rfl ?_
  refine ⟨_, rfl, ?_, exq⟩
  have h := HO2.out
  refine ownsRow_lower (base := w.heap.size + 1 + 1) ?_ (by omega)
  iterate 8 refine World.ownsRow.set ?_ (by simp; try omega) _
  simpa using h

def scaleEnc (x : Kr.Scale × Value) : List Value := [.int .i64 x.1.id, .int .i64 x.1.step, .int .i64 x.1.gain.lo, .int .i64 x.1.gain.hi, .int .i64 x.1.off.lo, .int .i64 x.1.off.hi, x.2]
theorem elem_Scale : ElemOf Tryz.prog 32 94 (.agg #[.int .i64 0, .int .i64 0, .int .i64 0, .int .i64 0, .int .i64 0, .int .i64 0, .slice none 0 0]) 7 72 := ⟨Tryz.underlying32, by kernel_rfl, rfl, by decide, by decide⟩

def trialEnc (t : Kr.Trial) : List Value := [.int .i64 t.weight, .int .i64 t.shown]
/-- The trials of the first k scales lie in rows of their own, in blocks one behind the other. -/
def TrOwn (W : World) (g : Nat) (L : List (Kr.Scale × Value)) (k : Nat) : Prop :=
  ∃ bs : Nat → Nat, (∀ i, i < k → bs i ≤ bs (i + 1)) ∧ g < bs 0 ∧ bs k ≤ W.heap.size ∧ ∀ (i : Nat) (x : Kr.Scale × Value), i < k → L[i]? = some x → W.ownsRow (bs i) 117 2 x.2 x.1.trials.length (x.1.trials.flatMap trialEnc) ∧ ∀ b, x.2.ownBlock = some b → b < bs (i + 1)
theorem TrOwn.zero {W : World} {g : Nat} (L : List (Kr.Scale × Value)) (h : g < W.heap.size) : TrOwn W g L 0 := ⟨fun _ => W.heap.size, fun _ hi => absurd hi (Nat.not_lt_zero _), h, Nat.le_refl _, fun _ _ hi => absurd hi (Nat.not_lt_zero _)⟩
theorem TrOwn.exts {W W' : World} {g k : Nat} {L : List (Kr.Scale × Value)} (h : TrOwn W g L k) (hE : W.Exts W') : TrOwn W' g L k := by
  obtain ⟨bs, h1, h2, h3, h4⟩ := h
  exact ⟨bs, h1, h2, Nat.le_trans h3 hE.size, fun i x hi hx => ⟨ownsRow_exts (h4 i x hi hx).1 hE, (h4 i x hi hx).2⟩⟩
theorem chain_le {bs : Nat → Nat} : ∀ {k i : Nat}, (∀ i, i < k → bs i ≤ bs (i + 1)) → i ≤ k → bs 0 ≤ bs i
  | _, 0, _, _ => Nat.le_refl _
  | k, i + 1, h, hi => Nat.le_trans (chain_le h (by omega)) (h i hi)
theorem TrOwn.set {W : World} {g k : Nat} {L : List (Kr.Scale × Value)} (h : TrOwn W g L k) {a : Addr} (ha : a.block ≤ g) (u : Value) : TrOwn (W.setCell a u) g L k := by
  obtain ⟨bs, h1, h2, h3, h4⟩ := h
  refine ⟨bs, h1, h2, by simpa using h3, fun i x hi hx => ⟨World.ownsRow.set (h4 i x hi hx).1 ?_ u, (h4 i x hi hx).2⟩⟩
  have := chain_le h1 (show i ≤ k by omega)
  omega
theorem TrOwn.step {W W' : World} {g k B : Nat} {L : List (Kr.Scale × Value)} {s : Kr.Scale} {v : Value} (h : TrOwn W g L k) (hE : W.Exts W') (hk : k < L.length) (hB : W.heap.size ≤ B) (ho : W'.ownsRow B 117 2 v s.trials.length (s.trials.flatMap trialEnc)) : TrOwn W' g (L.set k (s, v)) (k + 1) := by
  obtain ⟨bs, h1, h2, h3, h4⟩ := h
  refine ⟨fun i => if i ≤ k then bs i else W'.heap.size, fun i hi => ?_, by simpa using h2, by dsimp only; rw [if_neg (by omega)]; exact Nat.le_refl _, fun i x hi hx => ?_⟩
  · dsimp only
    rw [if_pos (by omega)]
    by_cases hik : i + 1 ≤ k
    · rw [if_pos hik]; exact h1 i (by omega)
    · obtain rfl : i = k := by omega
      rw [if_neg hik]; exact Nat.le_trans h3 hE.size
  · dsimp only
    rw [if_pos (by omega)]
    by_cases hik : i + 1 ≤ k
    · rw [if_pos hik]
      rw [List.getElem?_set_ne (by omega)] at hx
      exact ⟨ownsRow_exts (h4 i x (by omega) hx).1 hE, (h4 i x (by omega) hx).2⟩
    · obtain rfl : i = k := by omega
      rw [if_neg hik]
      rw [List.getElem?_set_self hk] at hx
      cases hx
      exact ⟨ownsRow_lower ho (Nat.le_trans h3 hB), fun b hb => (ho.lt b hb).2⟩

/-- A bay's scales lie in a new block of their own. -/
def BayNew (w w' : World) (v : Value) (ts : List (Kr.Scale × Value)) : Prop :=
  ts = [] ∨ ∃ g cg, v = .slice (some ⟨g, 0, none⟩) ts.length cg ∧ w.heap.size ≤ g ∧ (ts.length ≤ cg ∧ cg ≤ 9223372036854775807) ∧ BlkAt w' g (ts.flatMap scaleEnc) ∧ (∀ x ∈ ts, RowOff (fun t : Kr.Trial => [.int .i64 t.weight, .int .i64 t.shown]) 2 w' [g] x.2 x.1.trials) ∧ TrOwn w' g ts ts.length

set_option maxRecDepth 4000 in
set_option maxHeartbeats 2000000 in
theorem r04_TwinBay_new (ts : List (Kr.Scale × Value)) (v : Value) (w : World) (hb : BayAt w v ts) (hn : ts.length ≤ 1000) (ht : ∀ x ∈ ts, x.1.trials.length ≤ 1000) :
    Calls Tryz.prog 11 #[.agg #[v]] w fun e w' => ∃ v' ts', e = .returned (.agg #[v']) ∧ BayAt w' v' ts' ∧ ts'.map Prod.fst = ts.map Prod.fst ∧ w.Exts w' ∧ (∀ x ∈ ts', RowT 117 w' x.2) ∧ OffT 94 0 w' v' ts' ∧ BayNew w w' v' ts' := by
  have hrow := hb.row
  obtain ⟨p, cap, rfl⟩ := hrow.len
  have htr := hb.tr
  have HB := Lib.hid hb
  clear hb
  have HTR := Lib.hid htr
  clear htr
  have HT := Lib.hid ht
  clear ht
  have HR := Lib.hid hrow
  clear hrow
  go_enter Tryz.func11, Tryz.ntmps11
  go_wp2_with (at_builtin; refine wpList_append_row (.tmp 4) (.tmp 6) elem_Scale rfl rfl rfl (ownsRow_new _ _ _ (by simp)) rfl (HR.out.mono exq) (fun _ _ => rfl) (fun y hy u hu => by obtain ⟨q, c, e⟩ := (HTR.out y hy).len; simp [e] at hu; rcases hu with rfl | rfl | rfl | rfl | rfl | rfl | rfl <;> rfl) (by omega) (by simp) ?_)
  intro v1 w1 hown1 happ
  obtain ⟨X1, rfl⟩ := happ.exts ((w.alloc (.cells #[.slice p ts.length cap] 34)).alloc _) exq (by simp)
  have hz1 := World.size_ext_le _ X1
  simp at hz1
  rcases Nat.eq_zero_or_pos ts.length with h0 | h0
  · have hts : ts = [] := List.length_eq_zero_iff.1 h0
    subst hts
    have hr1 : IsRow scaleEnc 7 _ v1 [] := IsRow.of_owns (by simpa using hown1) (fun _ _ => rfl)
    obtain ⟨q1, cq1, e1⟩ := hr1.len
    subst e1
    clear happ hown1
    simp only [List.length_nil]
    go_wp2_with fail
    go_loopw [3] (fun i wr => i = .int .i64 0 ∧ wr.cell? ⟨w.heap.size, 0, none⟩ = some (.slice q1 0 cq1) ∧ wr.cell? ⟨w.heap.size + 1, 0, none⟩ = some (.slice none 0 0) ∧ wr.frozen? ⟨w.heap.size + 1, 0, none⟩ = false ∧ Lays wr w.heap.size ∧ Lays wr (w.heap.size + 1) ∧ w.Exts wr) (fun _ _ => 0)
    case atStart => exact ⟨rfl, by simp [go_sem], by simp [go_sem], by simp [go_sem], inferInstance, inferInstance, exq⟩
    case round =>
      obtain ⟨rfl, d0, d1, f1, hl1, hl2, hE⟩ := hrel
      obtain ⟨X, rfl⟩ := hE
      go_wp2_with fail
      refine bodyPost_ret (v := .agg #[.slice q1 0 cq1]) (by simp [results, Tryz.results11, go_sem, d1]) rfl ?_
      exact ⟨_, [], rfl, ⟨hr1.nil_any, fun x hx => by simp at hx⟩, rfl, exq, fun x hx => by simp at hx, .inl rfl, .inl rfl⟩
  obtain ⟨g, cg, hv1⟩ : ∃ g cg, v1 = .slice (some ⟨g, 0, none⟩) ts.length cg := by
    rcases hown1.2 with ⟨_, h1⟩ | ⟨g, cg, _, hv, _⟩
    · omega
    · exact ⟨g, cg, by simpa using hv⟩
  subst hv1
  try simp only [Nat.zero_add, List.nil_append] at hown1
  have hgb : w.heap.size + 2 ≤ g := (hown1.lt g rfl).1
  have hblk := BlkAt.of_owns hown1
  have hsct : RowT 94 _ _ := RowT.of_owns hown1
  have hcg : ts.length ≤ cg ∧ cg ≤ 9223372036854775807 := by
    rcases hown1.2 with ⟨h1, _⟩ | ⟨g', c', cur, hv, _, _, h3, h4, _⟩
    · cases h1
    · cases hv; unfold maxLen at h4; omega
  haveI : Differ w.heap.size g := ⟨by omega⟩
  haveI : Differ (w.heap.size + 1) g := ⟨by omega⟩
  haveI : Differ g w.heap.size := ⟨by omega⟩
  haveI : Differ g (w.heap.size + 1) := ⟨by omega⟩
  haveI : Lays (World.ext _ X1) g := ⟨(hown1.lt g rfl).2⟩
  have HBK := Lib.hid hblk
  clear hblk
  have HSC := Lib.hid hsct
  clear hsct
  clear hown1 happ
  go_wp2_with fail
  go_loopw [3] (fun i wr => ∃ k : Nat, k ≤ ts.length ∧ i = .int .i64 k ∧ (∃ L : List (Kr.Scale × Value), Hid (L.map Prod.fst = ts.map Prod.fst ∧ BlkAt wr g (L.flatMap scaleEnc) ∧ ∀ x ∈ L, RowOff (fun t : Kr.Trial => [.int .i64 t.weight, .int .i64 t.shown]) 2 wr [g, w.heap.size + 1] x.2 x.1.trials) ∧ Hid ((∀ i x, i < k → L[i]? = some x → RowT 117 wr x.2) ∧ RowT 94 wr (.slice (some ⟨g, 0, none⟩) ts.length cg) ∧ TrOwn wr g L k)) ∧ wr.cell? ⟨w.heap.size, 0, none⟩ = some (.slice (some ⟨g, 0, none⟩) ts.length cg) ∧ wr.cell? ⟨w.heap.size + 1, 0, none⟩ = some (.slice none 0 0) ∧ wr.frozen? ⟨w.heap.size + 1, 0, none⟩ = false ∧ Lays wr w.heap.size ∧ Lays wr (w.heap.size + 1) ∧ Lays wr g ∧ w.Exts wr) (fun i _ => ts.length - (intOf i).toNat)
  case atStart =>
    refine ⟨0, Nat.zero_le _, rfl, ⟨ts, Lib.hid ⟨rfl, ?_, fun x hx => RowOff.old (HTR.out x hx) exq (by simp; omega)⟩, Lib.hid ⟨fun i x hi => absurd hi (Nat.not_lt_zero _), HSC.out.set _ _, TrOwn.zero _ (Lays.lt (n := g))⟩⟩, by simp [go_sem], by simp [go_sem], by simp [go_sem], inferInstance, inferInstance, inferInstance, exq⟩
    exact HBK.out.set_other (by simp; omega) _
  case round =>
    obtain ⟨k, hk, rfl, ⟨L, HL, HLT⟩, d0, d1, f1, hl1, hl2, hl3, hE⟩ := hrel
    obtain ⟨hL1, hL2, hL3⟩ := HL.out
    have hLl : L.length = ts.length := by have h := congrArg List.length hL1; simpa using h
    by_cases hlt : k < ts.length
    · obtain ⟨⟨s, tv⟩, hs⟩ := some_of_lt (xs := L) (k := k) (by omega)
      have hsts : ∃ y ∈ ts, y.1 = s := by
        have h1 : s ∈ L.map Prod.fst := List.mem_map.2 ⟨_, List.mem_of_getElem? hs, rfl⟩
        rw [hL1] at h1
        exact List.mem_map.1 h1
      obtain ⟨y, hy, hys⟩ := hsts
      have hlen := HT.out y hy
      rw [hys] at hlen
      have hft : ∀ j u, (scaleEnc (s, tv))[j]? = some u → (L.flatMap scaleEnc)[k * 7 + j]? = some u := fun j u hu => flat_row (enc := scaleEnc) (size := 7) (fun _ => rfl) hs hu
      have hfl : (L.flatMap scaleEnc).length = L.length * 7 := flat_len L (fun _ _ => rfl)
      have c0 := hL2.cell _ _ (hft 0 _ rfl)
      have c1 := hL2.cell _ _ (hft 1 _ rfl)
      have c2 := hL2.cell _ _ (hft 2 _ rfl)
      have c3 := hL2.cell _ _ (hft 3 _ rfl)
      have c4 := hL2.cell _ _ (hft 4 _ rfl)
      have c5 := hL2.cell _ _ (hft 5 _ rfl)
      have c6 := hL2.cell _ _ (hft 6 _ rfl)
      have r0 := hL2.free (k * 7 + 0) (by omega)
      have r1 := hL2.free (k * 7 + 1) (by omega)
      have r2 := hL2.free (k * 7 + 2) (by omega)
      have r3 := hL2.free (k * 7 + 3) (by omega)
      have r4 := hL2.free (k * 7 + 4) (by omega)
      have r5 := hL2.free (k * 7 + 5) (by omega)
      have r6 := hL2.free (k * 7 + 6) (by omega)
      have htv := hL3 _ (List.mem_of_getElem? hs)
      obtain ⟨q, cq, etv⟩ := htv.row.len
      dsimp only at etv htv
      subst etv
      simp only [Nat.add_zero] at c0 r0
      obtain ⟨X, rfl⟩ := hE
      clear hL1 hL2 hL3 hft hfl hy hys
      have HS := Lib.hid hs
      clear hs
      have HV := Lib.hid htv
      clear htv
      go_wp2_with fail
      refine wp_region_calls 10 (fun i => i == 8) (fun c v W => ∃ v' B, v = .agg #[.int .i64 s.id, .int .i64 s.step, .int .i64 s.gain.lo, .int .i64 s.gain.hi, .int .i64 s.off.lo, .int .i64 s.off.hi, v'] ∧ (g < B ∧ (World.ext _ X).heap.size ≤ B) ∧ W.ownsRow B 117 2 v' s.trials.length (s.trials.flatMap fun t => [.int .i64 t.weight, .int .i64 t.shown])) (by kernel_rfl) (fun ν => by kernel_rfl) (by kernel_rfl) (by kernel_rfl) (by kernel_rfl) (by kernel_rfl) ?mono ?_
      rotate_left 1
      apply Exists.intro
      refine ⟨fun ν L hL => ?_, fun c oc hc hU ν W hE hΦ => ?_, fun ν W hE hΦ => ?_⟩
      · simp only [modU, cOp, List.mapIdx_cons, List.mapIdx_nil, Nat.zero_add, Nat.reduceAdd, Nat.reduceBEq, Bool.or_false, Bool.false_or, Bool.or_true, Bool.true_or, Bool.or_self, Bool.false_eq_true, if_false, if_true, List.take_succ_cons, List.take_zero]
        repeat (go_big_quiet_step (fail))
        exact wpQuiet_nil hL
      · simp at hU
        subst hU
        simp only [List.getElem?_cons_succ, List.getElem?_cons_zero, Option.some.injEq] at hc
        subst hc
        refine Oper.gives_fn rfl rfl rfl (enters_of Tryz.func42 (by kernel_rfl) rfl) ?_ rfl
        refine (r04_TwinScale_own s _ _ (HV.out.row.mono hE) hlen).mono ?_
        rintro e W' ⟨v', rfl, h1, h2⟩
        exact ⟨_, rfl, h2, v', _, rfl, ⟨(hE.lays hl3).lt, Nat.le_trans (by simp <;> omega) hE.size⟩, h1⟩
      · obtain ⟨v', B, hν, ⟨hB, hBX⟩, hown⟩ := hΦ 8 (by decide) rfl
        simp only [List.drop_succ_cons, List.drop_zero]
        rw [hν]
        obtain ⟨q2, cq2, e2⟩ := (IsRow.of_owns hown (fun _ _ => rfl)).len
        subst e2
        have hot : RowT 117 W (.slice q2 s.trials.length cq2) := RowT.of_owns hown
        have hoff : RowOff (fun t : Kr.Trial => [.int .i64 t.weight, .int .i64 t.shown]) 2 W [g, w.heap.size + 1] _ s.trials := RowOff.own hown (fun _ _ => rfl) (by simp; omega)
        have htro := HLT.out.2.2.step (W' := W) (World.Exts.trans exq hE) (by rw [hLl]; exact hlt) hBX hown
        obtain ⟨XS, rfl⟩ := hE
        have HTRO := Lib.hid htro
        clear htro
        have HO := Lib.hid hoff
        clear hoff
        have HOT := Lib.hid hot
        clear hot
        clear hown hΦ hν
        go_wp2_with fail
        go_roundw
        case rel =>
          obtain ⟨hL1, hL2, hL3⟩ := HL.out
          have hLl : L.length = ts.length := by have h := congrArg List.length hL1; simpa using h
          have hfl : (L.flatMap scaleEnc).length = L.length * 7 := flat_len L (fun _ _ => rfl)
          refine ⟨k + 1, by omega, by go_num, ⟨L.set k (s, .slice q2 s.trials.length cq2), Lib.hid ⟨?_, ?_, ?_⟩, ?_⟩, by simp [go_sem, d0], by simp [go_sem, d1], by simp [go_sem, f1], inferInstance, inferInstance, inferInstance, exq⟩
          · exact (map_set_same (f := Prod.fst) (y := (s, .slice q2 s.trials.length cq2)) HS.out rfl).trans hL1
          · rw [flat_put7 (enc := scaleEnc) (y := (s, .slice q2 s.trials.length cq2)) (fun _ => rfl) HS.out rfl]
            iterate 7 refine BlkAt.set ?_ (by (try simp only [List.length_set]); omega) _
            exact hL2.exts exq
          · intro x hx
            rcases List.mem_or_eq_of_mem_set hx with h | rfl
            · iterate 7 refine RowOff.set ?_ (by simp) _
              exact (hL3 x h).exts exq
            · iterate 7 refine RowOff.set ?_ (by simp) _
              exact HO.out
          · refine Lib.hid ⟨fun i x hi hx => ?_, ?_⟩
            rotate_left 1
            · refine ⟨?_, ?_⟩
              · iterate 7 refine RowT.set ?_ _ _
                exact HLT.out.2.1.exts exq
              · iterate 7 refine TrOwn.set ?_ (Nat.le_refl _) _
                exact HTRO.out
            iterate 7 refine RowT.set ?_ _ _
            by_cases hik : k = i
            · subst hik
              rw [List.getElem?_set_self (by omega)] at hx
              cases hx
              exact HOT.out
            · rw [List.getElem?_set_ne hik] at hx
              exact (HLT.out.1 i x (by omega) hx).exts exq
        case measure => simp [intOf]; omega
      case mono =>
        rintro c v W W' ⟨v', B, rfl, h1, h2⟩ hE
        exact ⟨v', B, rfl, h1, ownsRow_exts h2 hE⟩
    · obtain ⟨X, rfl⟩ := hE
      clear hL1 hL2 hL3
      go_wp2_with fail
      refine bodyPost_ret (v := .agg #[.slice (some ⟨g, 0, none⟩) ts.length cg]) (by simp [results, Tryz.results11, go_sem, d1]) rfl ?_
      obtain ⟨hL1, hL2, hL3⟩ := HL.out
      refine ⟨_, L, rfl, ⟨?_, fun x hx => (RowOff.set (a := ⟨w.heap.size + 1, 0, none⟩) (hL3 x hx) (by simp) _).row⟩, hL1, exq, fun x hx => by obtain ⟨i, hi⟩ := List.mem_iff_getElem?.1 hx; exact (HLT.out.1 i x (by have := lt_of_some hi; omega) hi).set _ _, .inr (.inr (HLT.out.2.1.set _ _)), .inr ⟨g, cg, by rw [hLl], by omega, by omega, hL2.set_other (by show w.heap.size + 1 ≠ g; omega) _, fun x hx => ?_, by rw [hLl]; exact (show k = ts.length by omega) ▸ HLT.out.2.2.set (by dsimp only; omega) _⟩⟩
      rotate_left 1
      · have h9 := RowOff.set (a := ⟨w.heap.size + 1, 0, none⟩) (hL3 x hx) (by simp) (.slice (some ⟨g, 0, none⟩) ts.length cg)
        exact ⟨h9.row, h9.off.imp id fun h g' hg' => h g' (by simp at hg' ⊢; exact .inl hg')⟩
      rw [← hLl]
      refine IsRow.of_blk (fun _ => rfl) (hL2.set_other ?_ _) inferInstance (by omega)
      show w.heap.size + 1 ≠ g
      omega
theorem r04_TwinBay_own (ts : List (Kr.Scale × Value)) (v : Value) (w : World) (hb : BayAt w v ts) (hn : ts.length ≤ 1000) (ht : ∀ x ∈ ts, x.1.trials.length ≤ 1000) :
    Calls Tryz.prog 11 #[.agg #[v]] w fun e w' => ∃ v' ts', e = .returned (.agg #[v']) ∧ BayAt w' v' ts' ∧ ts'.map Prod.fst = ts.map Prod.fst ∧ w.Exts w' ∧ (∀ x ∈ ts', RowT 117 w' x.2) ∧ OffT 94 0 w' v' ts' :=
  (r04_TwinBay_new ts v w hb hn ht).mono fun _ _ ⟨v', ts', h1, h2, h3, h4, h5, h6, _⟩ => ⟨v', ts', h1, h2, h3, h4, h5, h6⟩
theorem r04_TwinBay_any (ts : List (Kr.Scale × Value)) (v : Value) (w : World) (hb : BayAt w v ts) (hn : ts.length ≤ 1000) (ht : ∀ x ∈ ts, x.1.trials.length ≤ 1000) :
    Calls Tryz.prog 11 #[.agg #[v]] w fun e w' => ∃ v' ts', e = .returned (.agg #[v']) ∧ BayAt w' v' ts' ∧ ts'.map Prod.fst = ts.map Prod.fst ∧ w.Exts w' :=
  (r04_TwinBay_own ts v w hb hn ht).mono fun _ _ ⟨v', ts', h1, h2, h3, h4, _⟩ => ⟨v', ts', h1, h2, h3, h4⟩
end Go.Proofs.YtilmniopollbiaaGreatDoor

/-
  Walks of package scale and of its reference: the scales that are used.
-/
namespace Go.Proofs.YtilmniopollbiaaGreatDoor
open Go.RowKit Kr
set_option linter.unusedSimpArgs false

def usedBay (ls : List Load) (ts : List (Kr.Scale × Value)) : List (Kr.Scale × Value) := ts.filter fun x => usedB ls x.1
theorem usedBay_fst (ls : List Load) (ts : List (Kr.Scale × Value)) : (usedBay ls ts).map Prod.fst = used (ts.map Prod.fst) ls := by
  unfold usedBay used; rw [List.filter_map]; rfl
theorem usedBay_snoc {ls : List Load} {ts : List (Kr.Scale × Value)} {k : Nat} {x : Kr.Scale × Value} (hx : ts[k]? = some x) : usedBay ls (ts.take (k + 1)) = if usedB ls x.1 then usedBay ls (ts.take k) ++ [x] else usedBay ls (ts.take k) := by
  unfold usedBay; rw [take_snoc hx, List.filter_append]
  cases h : usedB ls x.1 <;> simp [h]
theorem usedBay_len (ls : List Load) (ts : List (Kr.Scale × Value)) (k : Nat) : (usedBay ls (ts.take k)).length ≤ ts.length := by
  unfold usedBay
  refine Nat.le_trans (List.length_filter_le _ _) ?_
  rw [List.length_take]; omega
theorem usedB_part {ls : List Load} {s : Scale} {m : Nat} {l : Load} (hl : ls[m]? = some l) : usedB (ls.take (m + 1)) s = (usedB (ls.take m) s || l.scale == s.id) := by
  unfold usedB; rw [take_snoc hl, List.any_append]; simp
theorem usedB_hit {ls : List Load} {s : Scale} {m : Nat} {l : Load} (hl : ls[m]? = some l) (h : l.scale = s.id) : usedB ls s = true := by
  unfold usedB; rw [List.any_eq_true]; exact ⟨l, List.mem_of_getElem? hl, by simpa using h⟩
theorem one_Scale (x : Kr.Scale × Value) (q : Option Addr) (n c : Nat) (h : x.2 = .slice q n c) : ∀ u ∈ scaleEnc x, u.oneCell' = true := by
  intro u hu
  simp [scaleEnc, h] at hu
  rcases hu with rfl | rfl | rfl | rfl | rfl | rfl | rfl <;> rfl

set_option maxRecDepth 4000 in
set_option maxHeartbeats 2000000 in
theorem r04_used_any (ts : List (Kr.Scale × Value)) (v : Value) (g : Gear) (lv rv sv : Value) (w : World) (hb : BayAt w v ts) (hg : GearAt w (g, lv, rv, sv)) (hn : ts.length ≤ 1000) :
    Calls Tryz.prog 165 #[.agg #[v], .agg #[lv, .int .i64 g.added, .int .i64 g.base, .int .i64 g.jitter, rv, sv, .int .i64 g.spread, .bool g.stamp]] w fun e w' => ∃ v', e = .returned v' ∧ BayAt w' v' (usedBay g.loads ts) ∧ w.Exts w' := by
  have hfin : usedBay g.loads (ts.take ts.length) = usedBay g.loads ts := by rw [List.take_length]
  obtain ⟨p, b, o, cap, rfl, hm, hp, hc⟩ := hb.row.ex
  obtain ⟨pl, bl, ol, capl, hlv, hml, hpl, hcl⟩ := hg.l.ex
  dsimp only at hlv hml hpl hcl
  subst hlv
  have htr := hb.tr
  have HC := Lib.hid hc
  clear hc
  have HP := Lib.hid hp
  clear hp
  have HCL := Lib.hid hcl
  clear hcl
  have HPL := Lib.hid hpl
  clear hpl
  have HTR := Lib.hid htr
  clear htr
  have HFIN := Lib.hid hfin
  clear hfin
  clear hb hg
  go_enter Tryz.func165, Tryz.ntmps165
  go_wp2_with fail
  go_loopw [5, 6] (fun out i wr => ∃ k : Nat, k ≤ ts.length ∧ i = .int .i64 k ∧ Hid (wr.ownsRow (w.heap.size + 2) 94 7 out (usedBay g.loads (ts.take k)).length ((usedBay g.loads (ts.take k)).flatMap scaleEnc)) ∧ ((w.alloc (.cells #[.slice p ts.length cap] 34)).alloc (.cells #[.slice pl g.loads.length capl, .int .i64 g.added, .int .i64 g.base, .int .i64 g.jitter, rv, sv, .int .i64 g.spread, .bool g.stamp] 38)).Exts wr) (fun _ i _ => ts.length - (intOf i).toNat)
  case atStart => exact ⟨0, Nat.zero_le _, rfl, Lib.hid (World.ownsRow_nil _ _ _ _), exq⟩
  case round =>
    obtain ⟨k, hk, rfl, HO, hE⟩ := hrel
    obtain ⟨X, rfl⟩ := hE
    by_cases hlt : k < ts.length
    · obtain ⟨rfl, hlay⟩ := HP.out (by omega)
      obtain ⟨⟨s, sv2⟩, hx⟩ := some_of_lt hlt
      have htx := HTR.out _ (List.mem_of_getElem? hx)
      dsimp only at htx
      obtain ⟨q1, cp1, rfl⟩ := htx.len
      have hcs := HC.out k _ hx
      have c0 := hcs 0 _ rfl
      have c1 := hcs 1 _ rfl
      have c2 := hcs 2 _ rfl
      have c3 := hcs 3 _ rfl
      have c4 := hcs 4 _ rfl
      have c5 := hcs 5 _ rfl
      have c6 := hcs 6 _ rfl
      simp only [Nat.add_zero] at c0 c1 c2 c3 c4 c5 c6
      have hnx := usedBay_snoc (ls := g.loads) hx
      dsimp only at hnx
      have hlen := usedBay_len g.loads ts k
      generalize usedBay g.loads (ts.take k) = U at hnx hlen HO
      have HN := Lib.hid hnx
      clear hnx
      clear hx hcs htx
      go_wp2_with fail
      go_loopw [5, 7] (fun so j wr => ∃ m : Nat, m ≤ g.loads.length ∧ j = .int .i64 m ∧ Hid (usedB (g.loads.take m) s = false) ∧ Hid (wr.ownsRow (w.heap.size + 2) 94 7 so U.length (U.flatMap scaleEnc)) ∧ (((w.alloc (.cells #[.slice (some ⟨b, o, none⟩) ts.length cap] 34)).alloc (.cells #[.slice pl g.loads.length capl, .int .i64 g.added, .int .i64 g.base, .int .i64 g.jitter, rv, sv, .int .i64 g.spread, .bool g.stamp] 38)).ext X).Exts wr) (fun _ j _ => g.loads.length - (intOf j).toNat)
      case atStart => exact ⟨0, Nat.zero_le _, rfl, Lib.hid rfl, Lib.hid (ownsRow_exts HO.out exq), exq⟩
      case round =>
        clear HO
        obtain ⟨m, hm1, rfl, HU, HO, hE⟩ := hrel
        obtain ⟨X1, rfl⟩ := hE
        by_cases hmlt : m < g.loads.length
        · obtain ⟨rfl, hlay2⟩ := HPL.out (by omega)
          obtain ⟨l, hl⟩ := some_of_lt hmlt
          have hcs := HCL.out m l hl
          have d0 := hcs 0 _ rfl
          simp only [Nat.add_zero] at d0
          have hup := usedB_part (s := s) hl
          rw [HU.out] at hup
          cases hq : l.scale == s.id
          · rw [hq] at hup
            have HUP := Lib.hid hup
            clear hup
            clear hl hcs
            go_wp2_with fail
            refine wp_region_ext (by kernel_rfl) (by kernel_rfl) ?_
            repeat (go_big_quiet_step (fail))
            refine wpQuiet_nil ?_
            rintro _ ⟨X, rfl⟩
            go_wp2_with fail
            go_roundw
            case rel => exact ⟨m + 1, by omega, by go_num, Lib.hid HUP.out, Lib.hid (ownsRow_exts HO.out exq), exq⟩
            case measure => simp [intOf]; omega
          · have hall := usedB_hit hl (by simpa using hq)
            have hz0 := World.size_ext_le _ X
            have hz1 := World.size_ext_le _ X1
            simp at hz0 hz1
            have HA := Lib.hid hall
            clear hall
            clear hl hcs hup
            go_wp2_with fail
            refine wp_region_ext (by kernel_rfl) (by kernel_rfl) ?_
            repeat (go_big_quiet_step (fail))
            refine wpQuiet_nil ?_
            rintro _ ⟨X, rfl⟩
            go_wp2_with (at_builtin; refine wpList_append1W (.tmp 35) (.tmp 41) elem_Scale rfl rfl rfl (ownsRow_exts HO.out exq) [.int .i64 s.id, .int .i64 s.step, .int .i64 s.gain.lo, .int .i64 s.gain.hi, .int .i64 s.off.lo, .int .i64 s.off.hi, .slice q1 s.trials.length cp1] _ (by simp) rfl rfl ?h1 ?h2 ?h4 ?h3 ?_)
            case h1 => exact one_Scale (s, .slice q1 s.trials.length cp1) _ _ _ rfl
            case h2 => omega
            case h4 => decide
            case h3 =>
              have h1 := World.size_ext_le _ X
              simp at h1 ⊢
              omega
            intro v' w' hown' happ
            have hE := happ.exts ((w.alloc (.cells #[.slice (some ⟨b, o, none⟩) ts.length cap] 34)).alloc (.cells #[.slice (some ⟨bl, ol, none⟩) g.loads.length capl, .int .i64 g.added, .int .i64 g.base, .int .i64 g.jitter, rv, sv, .int .i64 g.spread, .bool g.stamp] 38)) exq (by simp)
            have HO3 := Lib.hid hown'
            clear hown'
            have HE := Lib.hid hE
            clear hE
            clear happ
            go_wp2_with fail
            go_roundw
            case rel => exact ⟨k + 1, by omega, by go_num, Lib.hid (by rw [HN.out, HA.out, if_pos rfl, List.flatMap_append, List.length_append]; simpa [scaleEnc] using HO3.out), HE.out⟩
            case measure => simp [intOf]; omega
        · have hkn : m = g.loads.length := by omega
          have hU := HU.out
          rw [hkn, List.take_length] at hU
          have HU2 := Lib.hid hU
          clear hU
          clear hkn HU
          go_wp2_with fail
          go_roundw
          case rel => exact ⟨k + 1, by omega, by go_num, Lib.hid (by rw [HN.out, HU2.out, if_neg (by simp)]; exact ownsRow_exts HO.out exq), exq⟩
          case measure => simp [intOf]; omega
    · have hkn : k = ts.length := by omega
      have hO := HO.out
      rw [hkn, HFIN.out] at hO
      have hrw : IsRow scaleEnc 7 _ _ (usedBay g.loads ts) := IsRow.of_owns hO (fun _ _ => rfl)
      have HRW := Lib.hid hrw
      clear hrw
      clear hkn HO hO
      go_wp2_with fail
      go_ret
      refine ⟨_, rfl, ⟨HRW.out.mono exq, fun x hx => (HTR.out x (List.mem_filter.1 hx).1).mono exq⟩, exq⟩
end Go.Proofs.YtilmniopollbiaaGreatDoor

/-
  Walks of package scale: the scales that are used, by the hall.
-/
namespace Go
open Go.RowKit Go.Maps

/-- A map from ints to bools, asked with 'false' for what it lacks. -/
structure Idle (D : DataW Value) (f : Int → Bool) : Prop where
  isMap : IsMap D
  at_ : ∀ i, D.atKey (.int .i64 i) (.held (.bool false)) = .held (.bool (f i))
theorem Idle.nil : Idle (.map []) (fun _ => false) := ⟨isMap_empty, fun _ => rfl⟩
theorem Idle.put {D : DataW Value} {f : Int → Bool} (h : Idle D f) (i : Int) : Idle (D.put (.int .i64 i) (.held (.bool true))) (fun j => j == i || f j) := by
  refine ⟨h.isMap.put _ _, fun j => ?_⟩
  by_cases hj : j = i
  · subst hj; rw [atKey_put_same h.isMap (keyLit j)]; simp
  · rw [atKey_put_other (by intro e; cases e; exact hj rfl), h.at_]
    have : (j == i) = false := by simpa using hj
    simp [this]
theorem Idle.del {D : DataW Value} {f : Int → Bool} (h : Idle D f) (i : Int) : Idle (D.del (.int .i64 i)) (fun j => !(j == i) && f j) := by
  refine ⟨h.isMap.del _, fun j => ?_⟩
  by_cases hj : j = i
  · subst hj; rw [atKey_del_same]; simp
  · rw [atKey_del_other (by intro e; cases e; exact hj rfl), h.at_]
    have : (j == i) = false := by simpa using hj
    simp [this]
theorem Idle.same {D : DataW Value} {f g : Int → Bool} (h : Idle D f) (e : ∀ i, f i = g i) : Idle D g := ⟨h.isMap, fun i => by rw [h.at_, e]⟩

theorem exts_any {A W w' : World} (hg : W.grownBy w' none) (hE : A.Exts W) : A.Exts w' := .of (hE.below.grown hg hE.below.size (fun k hk => by cases hk))
/-- 'm[k]' of a map whose elements read as themselves. -/
theorem look_self {P : Program} {k t e : TypeId} {w : World} {b n : Nat} {D : DataW Value} (h : w.ownsMap P k readSelf b n D) (K : Keyed P k) (ht : P.underlying t = some (.map k e)) {z : Value} (hz : (zeroValue e).run P w = .ok z w)
    {key : Value} {kl : Lit} (hkey : keyOf P k key = some kl) {v : Value} (hv : D.atKey kl (.held z) = .held v) : (Instr.lookup t (.map (some b)) key false).run P w = .ok v w := by
  obtain ⟨es, clock, hb, F, _, rfl⟩ := h
  rcases Maps.fit_look false K ht hz hb F hkey with ⟨hrun, _, hat⟩ | ⟨e0, y, _, _, hrun, hRv, hat, _⟩
  · rw [hat] at hv; cases hv; exact hrun
  · rw [hat] at hv
    simp [readSelf] at hRv
    rw [← hRv] at hv
    simp at hv
    rw [hrun, ← hv]; rfl
end Go
namespace Go.Proofs.YtilmniopollbiaaGreatDoor
open Go.RowKit Go.Maps Kr
set_option linter.unusedSimpArgs false

theorem zero_bool (w : World) : (zeroValue 4).run Tryz.prog w = .ok (.bool false) w := by kernel_rfl

/-- Which Ids are still idle: those of the bay that the loads so far do not name. -/
def idleB (ts : List (Kr.Scale × Value)) (ls : List Load) (i : Int) : Bool := (ts.find? (fun x => x.1.id == i)).isSome && !(ls.any fun l => l.scale == i)

set_option maxRecDepth 4000 in
set_option maxHeartbeats 2000000 in
theorem hall_used_any (ts : List (Kr.Scale × Value)) (v : Value) (g : Gear) (lv rv sv : Value) (hb : Nat) (w : World) (hh : HallAt Tryz.prog 3 w hb v ts) (hg : GearAt w (g, lv, rv, sv)) (hn : ts.length ≤ 1000) (hok : ∀ x ∈ ts, right x.1 = true) :
    Calls Tryz.prog 157 #[.pointer (some ⟨hb, 0, none⟩), .agg #[lv, .int .i64 g.added, .int .i64 g.base, .int .i64 g.jitter, rv, sv, .int .i64 g.spread, .bool g.stamp]] w fun e w' => ∃ v', e = .returned v' ∧ BayAt w' v' (usedBay g.loads ts) ∧ w.Exts w' := by
  have hfin : usedBay g.loads (ts.take ts.length) = usedBay g.loads ts := by rw [List.take_length]
  obtain ⟨m, D, h0, h1, hM, hD⟩ := hh.ex
  have hlh := Lays.of_cell h0
  obtain ⟨p, b, o, cap, rfl, hm, hp, hc⟩ := hh.bay.row.ex
  obtain ⟨pl, bl, ol, capl, hlv, hml, hpl, hcl⟩ := hg.l.ex
  dsimp only at hlv hml hpl hcl
  subst hlv
  have htr := hh.bay.tr
  have hwf := hg.wf
  have HC := Lib.hid hc
  clear hc
  have HP := Lib.hid hp
  clear hp
  have HCL := Lib.hid hcl
  clear hcl
  have HPL := Lib.hid hpl
  clear hpl
  have HTR := Lib.hid htr
  clear htr
  have HWF := Lib.hid hwf
  clear hwf
  have HOK := Lib.hid hok
  clear hok
  have HFIN := Lib.hid hfin
  clear hfin
  have HM := Lib.hid hM
  clear hM
  have HD := Lib.hid hD
  clear hD
  clear hh hg
  have hmm := @run_makeMap Tryz.prog
  have hsz := HM.out.size_le
  have hmw := HM.out.lt
  go_enter Tryz.func157, Tryz.ntmps157
  go_wp2_with (at_range; refine wpList_range_own _ rfl _ 263 rfl 3 94 law_int Tryz.underlying263 readSelf m ts.length D rfl (ownsMap_exts HM.out exq) ?_; intro w0 hrg0 hg0 hs0)
  have hX0 : (w.alloc (.cells #[.slice pl g.loads.length capl, .int .i64 g.added, .int .i64 g.base, .int .i64 g.jitter, rv, sv, .int .i64 g.spread, .bool g.stamp] 38)).Exts w0 := exts_any hg0 exq
  have hI0 := ((World.ownsMap_made (w.alloc (.cells #[.slice pl g.loads.length capl, .int .i64 g.added, .int .i64 g.base, .int .i64 g.jitter, rv, sv, .int .i64 g.spread, .bool g.stamp] 38)) Tryz.prog 3 readSelf)).kept hg0 (by simp)
  simp only [World.size_alloc] at hI0 hrg0 hs0 ⊢
  have HX0 := Lib.hid hX0
  clear hX0
  have HI0 := Lib.hid hI0
  clear hI0
  clear hg0
  go_loopw [6] (fun _ wr => ∃ (left : Lit → Bool) (cnt : Nat) (Di : DataW Value), wr.ranges Tryz.prog 3 readSelf m (w.heap.size + 1 + 1) ts.length D left cnt ∧ cnt ≤ Maps.size D ∧ Hid (wr.ownsMap Tryz.prog 3 readSelf (w.heap.size + 1) (Maps.size D - cnt) Di) ∧ Hid (Idle Di fun i => Maps.has D (.int .i64 i) && !left (.int .i64 i)) ∧ (w.alloc (.cells #[.slice pl g.loads.length capl, .int .i64 g.added, .int .i64 g.base, .int .i64 g.jitter, rv, sv, .int .i64 g.spread, .bool g.stamp] 38)).Exts wr) (fun _ wr => wr.rangeLeft m (w.heap.size + 1 + 1))
  case atStart => exact ⟨_, _, .map [], hrg0, Nat.le_refl _, Lib.hid (HI0.out.mono (Nat.zero_le _)), Lib.hid (Idle.nil.same fun i => by simp), HX0.out⟩
  case round =>
    obtain ⟨left, cnt, Di, hrg, hcs, HI, HID, hE⟩ := hrel
    go_wp2_with (at_next; refine wpList_next_ranges _ rfl _ rfl 3 law_int readSelf (Value.int .i64) id (fun key kl hkey => by obtain ⟨x, rfl, _⟩ := Maps.keyOf_int_inv Tryz.underlying3 hkey; exact ⟨x, rfl⟩) (fun v y hv => ⟨v, rfl⟩) m (w.heap.size + 1 + 1) ts.length _ _ _ rfl hrg ?_ ?_)
    · intro hc0 hl0
      have hid0 : Idle Di (idleB ts (g.loads.take 0)) := HID.out.same fun i => by
        rw [hl0, HD.out.has_, byId_find]
        unfold idleB
        simp
      have hI2 : wr.ownsMap Tryz.prog 3 readSelf (w.heap.size + 1) (Maps.size D) Di := HI.out.mono (by omega)
      have HID0 := Lib.hid hid0
      clear hid0
      have HI2 := Lib.hid hI2
      clear hI2
      have HE := Lib.hid hE
      clear hE
      clear HI HID hl0 hrg
      obtain ⟨X0, rfl⟩ := HE.out
      clear HE
      go_wp2_with fail
      go_loopw [27] (fun i wr => ∃ (k : Nat) (Dj : DataW Value), k ≤ g.loads.length ∧ i = .int .i64 k ∧ Hid (wr.ownsMap Tryz.prog 3 readSelf (w.heap.size + 1) (Maps.size D) Dj) ∧ Hid (Idle Dj (idleB ts (g.loads.take k))) ∧ (w.alloc (.cells #[.slice pl g.loads.length capl, .int .i64 g.added, .int .i64 g.base, .int .i64 g.jitter, rv, sv, .int .i64 g.spread, .bool g.stamp] 38)).Exts wr) (fun i _ => g.loads.length - (intOf i).toNat)
      case atStart => exact ⟨0, Di, Nat.zero_le _, rfl, Lib.hid (HI2.out), Lib.hid HID0.out, exq⟩
      case round =>
        clear HID0 HI2
        obtain ⟨k, Dj, hk, rfl, HI, HID, hE⟩ := hrel
        obtain ⟨X, rfl⟩ := hE
        by_cases hlt : k < g.loads.length
        · obtain ⟨rfl, hlay2⟩ := HPL.out (by omega)
          obtain ⟨l, hl⟩ := some_of_lt hlt
          have hcs := HCL.out k l hl
          have c0 := hcs 0 _ rfl
          have c1 := hcs 1 _ rfl
          simp only [Nat.add_zero] at c0 c1
          have hw := HWF.out l (List.mem_of_getElem? hl)
          have hnx : ∀ i, idleB ts (g.loads.take (k + 1)) i = (!(i == l.scale) && idleB ts (g.loads.take k) i) := fun i => by
            unfold idleB
            rw [take_snoc hl, List.any_append]
            by_cases hi : i = l.scale
            · subst hi; simp
            · have e1 : (i == l.scale) = false := by simpa using hi
              have e2 : (l.scale == i) = false := by simpa using Ne.symm hi
              simp [e1, e2]
          have HNX := Lib.hid hnx
          clear hnx
          have HW := Lib.hid hw
          clear hw
          clear hl hcs
          go_wp2_with (at_delete; refine wpList_delete_own _ rfl _ _ 200 3 rfl 4 law_int Tryz.underlying200 readSelf _ _ Dj rfl (ownsMap_exts HI.out exq) _ _ rfl (keyOf_int_mk Tryz.underlying3 HW.out) ?_)
          intro w2 hown2 hturn
          have hE2 : (w.alloc (.cells #[.slice (some ⟨bl, ol, none⟩) g.loads.length capl, .int .i64 g.added, .int .i64 g.base, .int .i64 g.jitter, rv, sv, .int .i64 g.spread, .bool g.stamp] 38)).Exts w2 := exts_turned (b := w.heap.size + 1) exq (by simp) hturn.grown
          have HE2 := Lib.hid hE2
          clear hE2
          have HOWN2 := Lib.hid hown2
          clear hown2
          clear hturn
          go_wp2_with fail
          go_roundw
          case rel => exact ⟨k + 1, _, by omega, by go_num, Lib.hid HOWN2.out, Lib.hid ((HID.out.del l.scale).same fun i => (HNX.out i).symm), HE2.out⟩
          case measure => simp [intOf]; omega
        · have hkn : k = g.loads.length := by omega
          have hid1 := HID.out
          rw [hkn, List.take_length] at hid1
          have HID1 := Lib.hid hid1
          clear hid1
          clear hkn HID
          go_wp2_with fail
          go_loopw [9, 41] (fun out i wr => ∃ k : Nat, k ≤ ts.length ∧ i = .int .i64 k ∧ Hid (wr.ownsRow (World.ext _ X).heap.size 94 7 out (usedBay g.loads (ts.take k)).length ((usedBay g.loads (ts.take k)).flatMap scaleEnc)) ∧ (World.ext _ X).Exts wr) (fun _ i _ => ts.length - (intOf i).toNat)
          case atStart => exact ⟨0, Nat.zero_le _, rfl, Lib.hid (World.ownsRow_nil _ _ _ _), exq⟩
          case round =>
            have hzX := World.size_ext_le _ X
            simp at hzX
            have hI3 := HI.out
            have HI3 := Lib.hid hI3
            clear hI3
            clear HI
            obtain ⟨k, hk, rfl, HO, hE⟩ := hrel
            obtain ⟨X1, rfl⟩ := hE
            by_cases hlt : k < ts.length
            · obtain ⟨rfl, hlay⟩ := HP.out (by omega)
              obtain ⟨⟨s, sv2⟩, hx⟩ := some_of_lt hlt
              have htx := HTR.out _ (List.mem_of_getElem? hx)
              have hrs := right_id (HOK.out _ (List.mem_of_getElem? hx))
              dsimp only at htx hrs
              obtain ⟨q1, cp1, rfl⟩ := htx.len
              have hcs := HC.out k _ hx
              have c0 := hcs 0 _ rfl
              have c1 := hcs 1 _ rfl
              have c2 := hcs 2 _ rfl
              have c3 := hcs 3 _ rfl
              have c4 := hcs 4 _ rfl
              have c5 := hcs 5 _ rfl
              have c6 := hcs 6 _ rfl
              simp only [Nat.add_zero] at c0 c1 c2 c3 c4 c5 c6
              have hnx := usedBay_snoc (ls := g.loads) hx
              dsimp only at hnx
              have hlen := usedBay_len g.loads ts k
              have hib : idleB ts g.loads s.id = !usedB g.loads s := by
                unfold idleB usedB
                have h1 : (ts.find? (fun x => x.1.id == s.id)).isSome = true := by
                  rw [List.find?_isSome]
                  exact ⟨_, List.mem_of_getElem? hx, by simp⟩
                rw [h1, Bool.true_and]
              generalize usedBay g.loads (ts.take k) = U at hnx hlen HO
              have hkey : keyOf Tryz.prog 3 (.int .i64 s.id) = some (.int .i64 s.id) := keyOf_int_mk Tryz.underlying3 (WalkArith.wf_i64 (by omega))
              have hlk := look_self (ownsMap_exts (W := ((World.ext (World.ext _ X) X1).alloc (.cells #[.int .i64 s.id, .int .i64 s.step, .int .i64 s.gain.lo, .int .i64 s.gain.hi, .int .i64 s.off.lo, .int .i64 s.off.hi, .slice q1 s.trials.length cp1] 94))) HI3.out exq) law_int Tryz.underlying200 (zero_bool _) hkey (HID1.out.at_ s.id)
              rw [hib] at hlk
              clear hx hcs htx hib hkey
              cases hu : usedB g.loads s
              · rw [hu] at hnx hlk
                have HN := Lib.hid hnx
                clear hnx
                simp only [Bool.not_false, Bool.not_true] at hlk
                go_wp2_with fail
                go_roundw
                case rel => exact ⟨k + 1, by omega, by go_num, Lib.hid (by rw [HN.out, if_neg (by simp)]; exact ownsRow_exts HO.out exq), exq⟩
                case measure => simp [intOf]; omega
              · rw [hu] at hnx hlk
                have HN := Lib.hid hnx
                clear hnx
                simp only [Bool.not_false, Bool.not_true] at hlk
                go_wp2_with (at_builtin; refine wpList_append1W (.tmp 50) (.tmp 52) elem_Scale rfl rfl rfl (ownsRow_exts HO.out exq) [.int .i64 s.id, .int .i64 s.step, .int .i64 s.gain.lo, .int .i64 s.gain.hi, .int .i64 s.off.lo, .int .i64 s.off.hi, .slice q1 s.trials.length cp1] _ (by simp) rfl rfl ?h1 ?h2 ?h4 ?h3 ?_)
                case h1 => exact ⟨rfl, rfl, rfl, rfl, rfl, rfl, rfl⟩
                case h2 => omega
                case h3 =>
                  have h1 := World.size_ext_le _ X1
                  simp at h1 ⊢
                  omega
                intro v' w' hown' happ
                have hE := happ.exts (World.ext _ X) exq (Nat.le_refl _)
                have HO3 := Lib.hid hown'
                clear hown'
                have HE := Lib.hid hE
                clear hE
                clear happ
                go_wp2_with fail
                go_roundw
                case rel => exact ⟨k + 1, by omega, by go_num, Lib.hid (by rw [HN.out, if_pos trivial, List.flatMap_append, List.length_append]; simpa [scaleEnc] using HO3.out), HE.out⟩
                case measure => simp [intOf]; omega
            · have hkn : k = ts.length := by omega
              have hO := HO.out
              rw [hkn, HFIN.out] at hO
              have hrw : IsRow scaleEnc 7 _ _ (usedBay g.loads ts) := IsRow.of_owns hO (fun _ _ => rfl)
              have HRW := Lib.hid hrw
              clear hrw
              clear hkn HO hO
              go_wp2_with fail
              go_ret
              refine ⟨_, rfl, ⟨HRW.out.mono exq, fun x hx => (HTR.out x (List.mem_filter.1 hx).1).mono exq⟩, exq⟩
    · intro x c kl y yp w1 cnt1 hkey hlk hR hat hrg1 hlt hg1 hs1 hen
      obtain ⟨x', ex, rfl, hwx⟩ := Maps.keyOf_int_inv Tryz.underlying3 hkey
      cases ex
      have hhas := Maps.has_true_of_atKey hat
      have hE1 := exts_turned (b := w.heap.size + 1 + 1) hE (by simp) hg1
      have hI1 := HI.out.kept hg1 (by simp)
      have HE1 := Lib.hid hE1
      clear hE1
      have HI1 := Lib.hid hI1
      clear hI1
      have HAT := Lib.hid hat
      clear hat
      have HHAS := Lib.hid hhas
      clear hhas
      have HLK := Lib.hid hlk
      clear hlk
      clear hE HI
      go_wp2_with (at_mapUpdate; refine wpList_mapUpdate_own _ rfl _ _ _ 200 rfl 3 4 law_int Tryz.underlying200 readSelf _ _ Di rfl HI1.out (by unfold maxLen; omega) _ _ _ rfl rfl hkey _ [] rfl ?_)
      intro w2 hown2 hg2
      have hE2 := exts_turned (b := w.heap.size + 1) HE1.out (by simp) hg2
      have hrg2 := hrg1.kept hg2 (fun e => by have := Option.some.inj e; omega) (fun e => by have := Option.some.inj e; omega)
      have HE2 := Lib.hid hE2
      clear hE2
      have HOWN2 := Lib.hid hown2
      clear hown2
      clear hg1 hg2 hrg1
      go_wp2_with fail
      go_roundw
      case rel =>
        refine ⟨_, cnt1, _, hrg2, by omega, Lib.hid (HOWN2.out.mono (by omega)), Lib.hid ((HID.out.put x).same fun i => ?_), HE2.out⟩
        by_cases hi : i = x
        · subst hi; rw [HHAS.out]; simp [Lit.sameKey]
        · have e1 : (i == x) = false := by simpa using hi
          have e2 : (Lit.int .i64 i).sameKey (.int .i64 x) = false := sameKey_ne (fun e => hi (by cases e; rfl))
          rw [e1, e2]; simp
      case measure => rw [hrg2.left_eq, hrg.left_eq]; exact hlt
end Go.Proofs.YtilmniopollbiaaGreatDoor
