/-
  Several texts in one: see the heads of its parts.
-/
import Derived.Test.YtkgchngaganokaaGreatDoorTk
import Derived.Test.YtkgchngaganokaaGreatDoorRf
import Derived.Test.YtkgchngaganokaaGreatDoorBt
import Derived.Test.YtkgchngaganokaaGreatDoorPl
import Derived.Test.YtkgchngaganokaaGreatDoorScDT
import Derived.Maps.RangeWalk

/-
  Walks of the reference of layer 4: a twin of a bay: rows of an own row are written anew.
-/
namespace Go
open Go.RowKit

/-- The cells of an own block, from its start, all writable. -/
structure BlkAt (w : World) (g : Nat) (xs : List Value) : Prop where
  cell : ∀ q u, xs[q]? = some u → w.cell? ⟨g, q, none⟩ = some u
  free : ∀ q, q < xs.length → w.frozen? ⟨g, q, none⟩ = false
theorem BlkAt.lays {w : World} {g : Nat} {xs : List Value} (h : BlkAt w g xs) (h0 : 0 < xs.length) : Lays w g := Lays.of_cell (h.cell 0 xs[0] (by simp [h0]))
theorem BlkAt.exts {w w' : World} {g : Nat} {xs : List Value} (h : BlkAt w g xs) (hE : w.Exts w') : BlkAt w' g xs := by
  obtain ⟨X, rfl⟩ := hE
  refine ⟨fun q u hq => ?_, fun q hq => ?_⟩
  · haveI := h.lays (by have := (List.getElem?_eq_some_iff.1 hq).1; omega)
    rw [World.cell?_ext]; exact h.cell q u hq
  · haveI := h.lays (by omega)
    rw [World.frozen?_ext]; exact h.free q hq
theorem BlkAt.set {w : World} {g : Nat} {xs : List Value} (h : BlkAt w g xs) {p : Nat} (hp : p < xs.length) (u : Value) : BlkAt (w.setCell ⟨g, p, none⟩ u) g (xs.set p u) := by
  refine ⟨fun q v hq => ?_, fun q hq => ?_⟩
  · by_cases hpq : p = q
    · subst hpq
      rw [List.getElem?_set_self hp] at hq
      cases hq
      have h1 := h.cell p xs[p] (by simp [hp])
      exact World.cell?_setCell_same w _ u h1
    · rw [List.getElem?_set_ne hpq] at hq
      rw [World.cell?_setCell_other w _ _ u (fun e => hpq (by cases e; rfl))]
      exact h.cell q v hq
  · simp at hq
    simpa using h.free q hq
theorem BlkAt.set_other {w : World} {g : Nat} {xs : List Value} (h : BlkAt w g xs) {a : Addr} (ha : a.block ≠ g) (u : Value) : BlkAt (w.setCell a u) g xs := by
  refine ⟨fun q v hq => ?_, fun q hq => ?_⟩
  · rw [World.cell?_setCell_other w _ _ u (fun e => ha (by rw [e]))]
    exact h.cell q v hq
  · simpa using h.free q hq
theorem BlkAt.of_owns {w : World} {base e size n g c : Nat} {xs : List Value} (h : w.ownsRow base e size (.slice (some ⟨g, 0, none⟩) n c) n xs) : BlkAt w g xs := by
  rcases h.2 with ⟨h0, _⟩ | ⟨g', cap, cur, hv, _, hg, hnc, _, hcs, htk⟩
  · cases h0
  · cases hv
    have hx : ∀ (q : Nat) (u : Value), xs[q]? = some u → cur[q]? = some u := by
      intro q u hq
      rw [← htk] at hq
      have hlt : q < n * size := by
        have := (List.getElem?_eq_some_iff.1 hq).1
        rw [List.length_take] at this; omega
      rw [List.getElem?_take_of_lt hlt] at hq
      simpa using hq
    refine ⟨fun q u hq => ?_, fun q hq => ?_⟩
    · simp [World.cell?, hg, hx q u hq]
    · simp [World.frozen?, hg]

theorem ownsRow_lower {w : World} {base base' size n : Nat} {e : TypeId} {v : Value} {xs : List Value} (h : w.ownsRow base e size v n xs) (hb : base' ≤ base) : w.ownsRow base' e size v n xs :=
  ⟨h.1, h.2.elim Or.inl (fun ⟨g, cap, cur, hv, hg, r⟩ => Or.inr ⟨g, cap, cur, hv, Nat.le_trans hb hg, r⟩)⟩

theorem flat_row {α : Type} {enc : α → List Value} {size : Nat} (hk : ∀ y, (enc y).length = size) : ∀ {l : List α} {i : Nat} {x : α}, l[i]? = some x → ∀ {j : Nat} {u : Value}, (enc x)[j]? = some u → (l.flatMap enc)[i * size + j]? = some u
  | y :: l, 0, x, hx, j, u, hu => by
    simp at hx; subst hx
    rw [List.flatMap_cons, Nat.zero_mul, Nat.zero_add, List.getElem?_append_left (List.getElem?_eq_some_iff.1 hu).1]; exact hu
  | y :: l, i + 1, x, hx, j, u, hu => by
    rw [List.flatMap_cons, List.getElem?_append_right (by rw [hk, Nat.succ_mul]; omega), show (i + 1) * size + j - (enc y).length = i * size + j from by rw [hk, Nat.succ_mul]; omega]
    exact flat_row hk (by simpa using hx) hu
/-- A row that lies in none of the blocks G. -/
structure RowOff {α : Type} (enc : α → List Value) (k : Nat) (w : World) (G : List Nat) (v : Value) (xs : List α) : Prop where
  row : IsRow enc k w v xs
  off : xs = [] ∨ ∀ g ∈ G, v.ownBlock ≠ some g
theorem RowOff.exts {α : Type} {enc : α → List Value} {k : Nat} {G : List Nat} {w w' : World} {v : Value} {xs : List α} (h : RowOff enc k w G v xs) (hE : w.Exts w') : RowOff enc k w' G v xs := ⟨h.row.mono hE, h.off⟩
theorem RowOff.set {α : Type} {enc : α → List Value} {k : Nat} {G : List Nat} {w : World} {v : Value} {xs : List α} (h : RowOff enc k w G v xs) {a : Addr} (hg : a.block ∈ G) (u : Value) : RowOff enc k (w.setCell a u) G v xs := by
  refine ⟨?_, h.off⟩
  obtain ⟨p, b, o, cap, rfl, hm, hp, hc⟩ := h.row.ex
  refine ⟨p, b, o, cap, rfl, hm, fun h0 => ⟨(hp h0).1, by haveI := (hp h0).2; infer_instance⟩, fun i x hx j u' hu => ?_⟩
  have h0 : 0 < xs.length := by have := (List.getElem?_eq_some_iff.1 hx).1; omega
  have hb : a.block ≠ b := fun e => by
    rcases h.off with h1 | h1
    · rw [h1] at h0; simp at h0
    · have h2 := h1 _ hg
      rw [(hp h0).1, e] at h2; exact h2 rfl
  rw [World.cell?_setCell_other w _ _ u (fun e => hb (by rw [e]))]
  exact hc i x hx j u' hu
theorem RowOff.old {α : Type} {enc : α → List Value} {k : Nat} {G : List Nat} {w w' : World} {v : Value} {xs : List α} (h : IsRow enc k w v xs) (hE : w.Exts w') (hg : ∀ g ∈ G, w.heap.size ≤ g) : RowOff enc k w' G v xs := by
  refine ⟨h.mono hE, ?_⟩
  obtain ⟨p, b, o, cap, rfl, hm, hp, hc⟩ := h.ex
  rcases Nat.eq_zero_or_pos xs.length with h0 | h0
  · exact .inl (List.length_eq_zero_iff.1 h0)
  · have := (hp h0).2.lt
    rw [(hp h0).1]
    exact .inr (fun g h1 e => by have := hg g h1; simp [Value.ownBlock] at e; omega)
theorem RowOff.own {α : Type} {enc : α → List Value} {k base e : Nat} {G : List Nat} {w : World} {v : Value} {xs : List α} (h : w.ownsRow base e k v xs.length (xs.flatMap enc)) (hk : ∀ y ∈ xs, (enc y).length = k) (hg : ∀ g ∈ G, g < base) : RowOff enc k w G v xs := by
  refine ⟨IsRow.of_owns h hk, .inr fun g h1 e => ?_⟩
  have := (h.lt g e).1
  have := hg g h1
  omega
/-- A row, from the cells of its block. -/
theorem IsRow.of_blk {α : Type} {enc : α → List Value} {k g c : Nat} {w : World} {xs : List α} (hk : ∀ y, (enc y).length = k) (h : BlkAt w g (xs.flatMap enc)) (hl : Lays w g) (hc : xs.length ≤ c ∧ c ≤ 9223372036854775807) : IsRow enc k w (.slice (some ⟨g, 0, none⟩) xs.length c) xs :=
  ⟨_, g, 0, c, rfl, hc, fun _ => ⟨rfl, hl⟩, fun i x hx j u hu => by rw [Nat.zero_add]; exact h.cell _ _ (flat_row hk hx hu)⟩
theorem IsRow.nil_any {α : Type} {enc : α → List Value} {k : Nat} {w w' : World} {v : Value} (h : IsRow enc k w v []) : IsRow enc k w' v [] := by
  obtain ⟨p, b, o, cap, rfl, hm, _, _⟩ := h.ex
  exact ⟨p, b, o, cap, rfl, hm, fun h0 => absurd h0 (Nat.lt_irrefl 0), fun i x hx => by simp at hx⟩
theorem map_set_same {α β : Type} {f : α → β} {l : List α} {i : Nat} {x y : α} (h : l[i]? = some x) (e : f y = f x) : (l.set i y).map f = l.map f := by
  obtain ⟨hi, hx⟩ := List.getElem?_eq_some_iff.1 h
  refine List.ext_getElem? fun j => ?_
  rw [List.getElem?_map, List.getElem?_map]
  by_cases hj : i = j
  · subst hj; rw [List.getElem?_set_self hi, h]; simp [e]
  · rw [List.getElem?_set_ne hj]
theorem set_tail {A Z : List Value} {n : Nat} (hA : A.length = n) (j : Nat) (u : Value) : (A ++ Z).set (n + j) u = A ++ Z.set j u := by
  rw [List.set_append_right _ _ (by omega)]
  congr 2
  omega
theorem set_tail0 {A Z : List Value} {n : Nat} (hA : A.length = n) (u : Value) : (A ++ Z).set n u = A ++ Z.set 0 u := set_tail hA 0 u
/-- Seven cells of a flat list are written anew. -/
theorem flat_put7 {α : Type} {enc : α → List Value} (hk : ∀ y, (enc y).length = 7) {l : List α} {i : Nat} {x y : α} (hx : l[i]? = some x) {a b c d e f g : Value} (hy : enc y = [a, b, c, d, e, f, g]) :
    (l.set i y).flatMap enc = (((((((l.flatMap enc).set (i * 7) a).set (i * 7 + 1) b).set (i * 7 + 2) c).set (i * 7 + 3) d).set (i * 7 + 4) e).set (i * 7 + 5) f).set (i * 7 + 6) g := by
  obtain ⟨hi, hxx⟩ := List.getElem?_eq_some_iff.1 hx
  have hl : l = l.take i ++ (x :: l.drop (i + 1)) := by rw [← hxx, ← List.drop_eq_getElem_cons hi, List.take_append_drop]
  have hA : ((l.take i).flatMap enc).length = i * 7 := by rw [flat_len _ (fun y _ => hk y), List.length_take, Nat.min_eq_left (by omega)]
  have hflat : l.flatMap enc = (l.take i).flatMap enc ++ (enc x ++ (l.drop (i + 1)).flatMap enc) := by
    conv => lhs; rw [hl]
    rw [List.flatMap_append, List.flatMap_cons]
  obtain ⟨a', b', c', d', e', f', g', he⟩ : ∃ a b c d e f g, enc x = [a, b, c, d, e, f, g] := by
    have := hk x
    match h : enc x, this with
    | [a, b, c, d, e, f, g], _ => exact ⟨_, _, _, _, _, _, _, rfl⟩
  rw [List.set_eq_take_append_cons_drop, if_pos hi, List.flatMap_append, List.flatMap_cons, hy, hflat, he]
  rw [set_tail0 hA, set_tail hA, set_tail hA, set_tail hA, set_tail hA, set_tail hA, set_tail hA]
  rfl

end Go
namespace Go.Proofs.YtkgchngaganokaaGreatDoor
open Go.RowKit Kr
set_option linter.unusedSimpArgs false

def scaleEnc (x : Kr.Scale × Value) : List Value := [.int .i64 x.1.id, .int .i64 x.1.step, .int .i64 x.1.gain.lo, .int .i64 x.1.gain.hi, .int .i64 x.1.off.lo, .int .i64 x.1.off.hi, x.2]
def trialEnc (t : Kr.Trial) : List Value := [.int .i64 t.weight, .int .i64 t.shown]
theorem chain_le {bs : Nat → Nat} : ∀ {k i : Nat}, (∀ i, i < k → bs i ≤ bs (i + 1)) → i ≤ k → bs 0 ≤ bs i
  | _, 0, _, _ => Nat.le_refl _
  | k, i + 1, h, hi => Nat.le_trans (chain_le h (by omega)) (h i hi)
end Go.Proofs.YtkgchngaganokaaGreatDoor

/-
  Walks of package scale and of its reference: the scales that are used.
-/
namespace Go.Proofs.YtkgchngaganokaaGreatDoor
open Go.RowKit Kr
set_option linter.unusedSimpArgs false

def usedBay (ls : List Load) (ts : List (Kr.Scale × Value)) : List (Kr.Scale × Value) := ts.filter fun x => usedB ls x.1
theorem usedBay_fst (ls : List Load) (ts : List (Kr.Scale × Value)) : (usedBay ls ts).map Prod.fst = used (ts.map Prod.fst) ls := by
  unfold usedBay used; rw [List.filter_map]; rfl
theorem usedBay_snoc {ls : List Load} {ts : List (Kr.Scale × Value)} {k : Nat} {x : Kr.Scale × Value} (hx : ts[k]? = some x) : usedBay ls (ts.take (k + 1)) = if usedB ls x.1 then usedBay ls (ts.take k) ++ [x] else usedBay ls (ts.take k) := by
  unfold usedBay; rw [take_snoc hx, List.filter_append]
  cases h : usedB ls x.1 <;> simp [h]
theorem usedBay_len (ls : List Load) (ts : List (Kr.Scale × Value)) (k : Nat) : (usedBay ls (ts.take k)).length ≤ ts.length := by
  unfold usedBay
  refine Nat.le_trans (List.length_filter_le _ _) ?_
  rw [List.length_take]; omega
theorem usedB_part {ls : List Load} {s : Scale} {m : Nat} {l : Load} (hl : ls[m]? = some l) : usedB (ls.take (m + 1)) s = (usedB (ls.take m) s || l.scale == s.id) := by
  unfold usedB; rw [take_snoc hl, List.any_append]; simp
theorem usedB_hit {ls : List Load} {s : Scale} {m : Nat} {l : Load} (hl : ls[m]? = some l) (h : l.scale = s.id) : usedB ls s = true := by
  unfold usedB; rw [List.any_eq_true]; exact ⟨l, List.mem_of_getElem? hl, by simpa using h⟩
theorem one_Scale (x : Kr.Scale × Value) (q : Option Addr) (n c : Nat) (h : x.2 = .slice q n c) : ∀ u ∈ scaleEnc x, u.oneCell' = true := by
  intro u hu
  simp [scaleEnc, h] at hu
  rcases hu with rfl | rfl | rfl | rfl | rfl | rfl | rfl <;> rfl

end Go.Proofs.YtkgchngaganokaaGreatDoor

/-
  Walks of package scale: the scales that are used, by the hall.
-/
namespace Go
open Go.RowKit Go.Maps

/-- A map from ints to bools, asked with 'false' for what it lacks. -/
structure Idle (D : DataW Value) (f : Int → Bool) : Prop where
  isMap : IsMap D
  at_ : ∀ i, D.atKey (.int .i64 i) (.held (.bool false)) = .held (.bool (f i))
theorem Idle.nil : Idle (.map []) (fun _ => false) := ⟨isMap_empty, fun _ => rfl⟩
theorem Idle.put {D : DataW Value} {f : Int → Bool} (h : Idle D f) (i : Int) : Idle (D.put (.int .i64 i) (.held (.bool true))) (fun j => j == i || f j) := by
  refine ⟨h.isMap.put _ _, fun j => ?_⟩
  by_cases hj : j = i
  · subst hj; rw [atKey_put_same h.isMap (keyLit j)]; simp
  · rw [atKey_put_other (by intro e; cases e; exact hj rfl), h.at_]
    have : (j == i) = false := by simpa using hj
    simp [this]
theorem Idle.del {D : DataW Value} {f : Int → Bool} (h : Idle D f) (i : Int) : Idle (D.del (.int .i64 i)) (fun j => !(j == i) && f j) := by
  refine ⟨h.isMap.del _, fun j => ?_⟩
  by_cases hj : j = i
  · subst hj; rw [atKey_del_same]; simp
  · rw [atKey_del_other (by intro e; cases e; exact hj rfl), h.at_]
    have : (j == i) = false := by simpa using hj
    simp [this]
theorem Idle.same {D : DataW Value} {f g : Int → Bool} (h : Idle D f) (e : ∀ i, f i = g i) : Idle D g := ⟨h.isMap, fun i => by rw [h.at_, e]⟩

theorem exts_any {A W w' : World} (hg : W.grownBy w' none) (hE : A.Exts W) : A.Exts w' := .of (hE.below.grown hg hE.below.size (fun k hk => by cases hk))
/-- 'm[k]' of a map whose elements read as themselves. -/
theorem look_self {P : Program} {k t e : TypeId} {w : World} {b n : Nat} {D : DataW Value} (h : w.ownsMap P k readSelf b n D) (K : Keyed P k) (ht : P.underlying t = some (.map k e)) {z : Value} (hz : (zeroValue e).run P w = .ok z w)
    {key : Value} {kl : Lit} (hkey : keyOf P k key = some kl) {v : Value} (hv : D.atKey kl (.held z) = .held v) : (Instr.lookup t (.map (some b)) key false).run P w = .ok v w := by
  obtain ⟨es, clock, hb, F, _, rfl⟩ := h
  rcases Maps.fit_look false K ht hz hb F hkey with ⟨hrun, _, hat⟩ | ⟨e0, y, _, _, hrun, hRv, hat, _⟩
  · rw [hat] at hv; cases hv; exact hrun
  · rw [hat] at hv
    simp [readSelf] at hRv
    rw [← hRv] at hv
    simp at hv
    rw [hrun, ← hv]; rfl
end Go
namespace Go.Proofs.YtkgchngaganokaaGreatDoor
open Go.RowKit Go.Maps Kr
set_option linter.unusedSimpArgs false

theorem zero_bool (w : World) : (zeroValue 4).run Tryz.prog w = .ok (.bool false) w := by kernel_rfl

/-- Which Ids are still idle: those of the bay that the loads so far do not name. -/
def idleB (ts : List (Kr.Scale × Value)) (ls : List Load) (i : Int) : Bool := (ts.find? (fun x => x.1.id == i)).isSome && !(ls.any fun l => l.scale == i)

end Go.Proofs.YtkgchngaganokaaGreatDoor
