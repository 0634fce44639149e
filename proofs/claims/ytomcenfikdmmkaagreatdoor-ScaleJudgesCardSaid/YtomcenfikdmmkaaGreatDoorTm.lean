/-
  Walks of the reference of layer 4: a twin of a bay: rows of an own row are written anew.
-/
import Derived.Test.YtomcenfikdmmkaaGreatDoorTl
import Derived.Test.YtomcenfikdmmkaaGreatDoorRg
import Derived.Test.YtomcenfikdmmkaaGreatDoorBt
namespace Go
open Go.RowKit

/-- The cells of an own block, from its start, all writable. -/
structure BlkAt (w : World) (g : Nat) (xs : List Value) : Prop where
  cell : ∀ q u, xs[q]? = some u → w.cell? ⟨g, q, none⟩ = some u
  free : ∀ q, q < xs.length → w.frozen? ⟨g, q, none⟩ = false
theorem BlkAt.lays {w : World} {g : Nat} {xs : List Value} (h : BlkAt w g xs) (h0 : 0 < xs.length) : Lays w g := Lays.of_cell (h.cell 0 xs[0] (by simp [h0]))
theorem BlkAt.exts {w w' : World} {g : Nat} {xs : List Value} (h : BlkAt w g xs) (hE : w.Exts w') : BlkAt w' g xs := by
  obtain ⟨X, rfl⟩ := hE
  refine ⟨fun q u hq => ?_, fun q hq => ?_⟩
  · haveI := h.lays (by have := (List.getElem?_eq_some_iff.1 hq).1; omega)
    rw [World.cell?_ext]; exact h.cell q u hq
  · haveI := h.lays (by omega)
    rw [World.frozen?_ext]; exact h.free q hq
theorem BlkAt.set {w : World} {g : Nat} {xs : List Value} (h : BlkAt w g xs) {p : Nat} (hp : p < xs.length) (u : Value) : BlkAt (w.setCell ⟨g, p, none⟩ u) g (xs.set p u) := by
  refine ⟨fun q v hq => ?_, fun q hq => ?_⟩
  · by_cases hpq : p = q
    · subst hpq
      rw [List.getElem?_set_self hp] at hq
      cases hq
      have h1 := h.cell p xs[p] (by simp [hp])
      exact World.cell?_setCell_same w _ u h1
    · rw [List.getElem?_set_ne hpq] at hq
      rw [World.cell?_setCell_other w _ _ u (fun e => hpq (by cases e; rfl))]
      exact h.cell q v hq
  · simp at hq
    simpa using h.free q hq
theorem BlkAt.set_other {w : World} {g : Nat} {xs : List Value} (h : BlkAt w g xs) {a : Addr} (ha : a.block ≠ g) (u : Value) : BlkAt (w.setCell a u) g xs := by
  refine ⟨fun q v hq => ?_, fun q hq => ?_⟩
  · rw [World.cell?_setCell_other w _ _ u (fun e => ha (by rw [e]))]
    exact h.cell q v hq
  · simpa using h.free q hq
theorem BlkAt.of_owns {w : World} {base e size n g c : Nat} {xs : List Value} (h : w.ownsRow base e size (.slice (some ⟨g, 0, none⟩) n c) n xs) : BlkAt w g xs := by
  rcases h.2 with ⟨h0, _⟩ | ⟨g', cap, cur, hv, _, hg, hnc, _, hcs, htk⟩
  · cases h0
  · cases hv
    have hx : ∀ (q : Nat) (u : Value), xs[q]? = some u → cur[q]? = some u := by
      intro q u hq
      rw [← htk] at hq
      have hlt : q < n * size := by
        have := (List.getElem?_eq_some_iff.1 hq).1
        rw [List.length_take] at this; omega
      rw [List.getElem?_take_of_lt hlt] at hq
      simpa using hq
    refine ⟨fun q u hq => ?_, fun q hq => ?_⟩
    · simp [World.cell?, hg, hx q u hq]
    · simp [World.frozen?, hg]

theorem ownsRow_lower {w : World} {base base' size n : Nat} {e : TypeId} {v : Value} {xs : List Value} (h : w.ownsRow base e size v n xs) (hb : base' ≤ base) : w.ownsRow base' e size v n xs :=
  ⟨h.1, h.2.elim Or.inl (fun ⟨g, cap, cur, hv, hg, r⟩ => Or.inr ⟨g, cap, cur, hv, Nat.le_trans hb hg, r⟩)⟩

theorem flat_row {α : Type} {enc : α → List Value} {size : Nat} (hk : ∀ y, (enc y).length = size) : ∀ {l : List α} {i : Nat} {x : α}, l[i]? = some x → ∀ {j : Nat} {u : Value}, (enc x)[j]? = some u → (l.flatMap enc)[i * size + j]? = some u
  | y :: l, 0, x, hx, j, u, hu => by
    simp at hx; subst hx
    rw [List.flatMap_cons, Nat.zero_mul, Nat.zero_add, List.getElem?_append_left (List.getElem?_eq_some_iff.1 hu).1]; exact hu
  | y :: l, i + 1, x, hx, j, u, hu => by
    rw [List.flatMap_cons, List.getElem?_append_right (by rw [hk, Nat.succ_mul]; omega), show (i + 1) * size + j - (enc y).length = i * size + j from by rw [hk, Nat.succ_mul]; omega]
    exact flat_row hk (by simpa using hx) hu
/-- A row that lies in none of the blocks G. -/
structure RowOff {α : Type} (enc : α → List Value) (k : Nat) (w : World) (G : List Nat) (v : Value) (xs : List α) : Prop where
  row : IsRow enc k w v xs
  off : xs = [] ∨ ∀ g ∈ G, v.ownBlock ≠ some g
theorem RowOff.exts {α : Type} {enc : α → List Value} {k : Nat} {G : List Nat} {w w' : World} {v : Value} {xs : List α} (h : RowOff enc k w G v xs) (hE : w.Exts w') : RowOff enc k w' G v xs := ⟨h.row.mono hE, h.off⟩
theorem RowOff.set {α : Type} {enc : α → List Value} {k : Nat} {G : List Nat} {w : World} {v : Value} {xs : List α} (h : RowOff enc k w G v xs) {a : Addr} (hg : a.block ∈ G) (u : Value) : RowOff enc k (w.setCell a u) G v xs := by
  refine ⟨?_, h.off⟩
  obtain ⟨p, b, o, cap, rfl, hm, hp, hc⟩ := h.row.ex
  refine ⟨p, b, o, cap, rfl, hm, fun h0 => ⟨(hp h0).1, by haveI := (hp h0).2; infer_instance⟩, fun i x hx j u' hu => ?_⟩
  have h0 : 0 < xs.length := by have := (List.getElem?_eq_some_iff.1 hx).1; omega
  have hb : a.block ≠ b := fun e => by
    rcases h.off with h1 | h1
    · rw [h1] at h0; simp at h0
    · have h2 := h1 _ hg
      rw [(hp h0).1, e] at h2; exact h2 rfl
  rw [World.cell?_setCell_other w _ _ u (fun e => hb (by rw [e]))]
  exact hc i x hx j u' hu
theorem RowOff.old {α : Type} {enc : α → List Value} {k : Nat} {G : List Nat} {w w' : World} {v : Value} {xs : List α} (h : IsRow enc k w v xs) (hE : w.Exts w') (hg : ∀ g ∈ G, w.heap.size ≤ g) : RowOff enc k w' G v xs := by
  refine ⟨h.mono hE, ?_⟩
  obtain ⟨p, b, o, cap, rfl, hm, hp, hc⟩ := h.ex
  rcases Nat.eq_zero_or_pos xs.length with h0 | h0
  · exact .inl (List.length_eq_zero_iff.1 h0)
  · have := (hp h0).2.lt
    rw [(hp h0).1]
    exact .inr (fun g h1 e => by have := hg g h1; simp [Value.ownBlock] at e; omega)
theorem RowOff.own {α : Type} {enc : α → List Value} {k base e : Nat} {G : List Nat} {w : World} {v : Value} {xs : List α} (h : w.ownsRow base e k v xs.length (xs.flatMap enc)) (hk : ∀ y ∈ xs, (enc y).length = k) (hg : ∀ g ∈ G, g < base) : RowOff enc k w G v xs := by
  refine ⟨IsRow.of_owns h hk, .inr fun g h1 e => ?_⟩
  have := (h.lt g e).1
  have := hg g h1
  omega
/-- A row, from the cells of its block. -/
theorem IsRow.of_blk {α : Type} {enc : α → List Value} {k g c : Nat} {w : World} {xs : List α} (hk : ∀ y, (enc y).length = k) (h : BlkAt w g (xs.flatMap enc)) (hl : Lays w g) (hc : xs.length ≤ c ∧ c ≤ 9223372036854775807) : IsRow enc k w (.slice (some ⟨g, 0, none⟩) xs.length c) xs :=
  ⟨_, g, 0, c, rfl, hc, fun _ => ⟨rfl, hl⟩, fun i x hx j u hu => by rw [Nat.zero_add]; exact h.cell _ _ (flat_row hk hx hu)⟩
theorem IsRow.nil_any {α : Type} {enc : α → List Value} {k : Nat} {w w' : World} {v : Value} (h : IsRow enc k w v []) : IsRow enc k w' v [] := by
  obtain ⟨p, b, o, cap, rfl, hm, _, _⟩ := h.ex
  exact ⟨p, b, o, cap, rfl, hm, fun h0 => absurd h0 (Nat.lt_irrefl 0), fun i x hx => by simp at hx⟩
theorem map_set_same {α β : Type} {f : α → β} {l : List α} {i : Nat} {x y : α} (h : l[i]? = some x) (e : f y = f x) : (l.set i y).map f = l.map f := by
  obtain ⟨hi, hx⟩ := List.getElem?_eq_some_iff.1 h
  refine List.ext_getElem? fun j => ?_
  rw [List.getElem?_map, List.getElem?_map]
  by_cases hj : i = j
  · subst hj; rw [List.getElem?_set_self hi, h]; simp [e]
  · rw [List.getElem?_set_ne hj]
theorem set_tail {A Z : List Value} {n : Nat} (hA : A.length = n) (j : Nat) (u : Value) : (A ++ Z).set (n + j) u = A ++ Z.set j u := by
  rw [List.set_append_right _ _ (by omega)]
  congr 2
  omega
theorem set_tail0 {A Z : List Value} {n : Nat} (hA : A.length = n) (u : Value) : (A ++ Z).set n u = A ++ Z.set 0 u := set_tail hA 0 u
/-- Seven cells of a flat list are written anew. -/
theorem flat_put7 {α : Type} {enc : α → List Value} (hk : ∀ y, (enc y).length = 7) {l : List α} {i : Nat} {x y : α} (hx : l[i]? = some x) {a b c d e f g : Value} (hy : enc y = [a, b, c, d, e, f, g]) :
    (l.set i y).flatMap enc = (((((((l.flatMap enc).set (i * 7) a).set (i * 7 + 1) b).set (i * 7 + 2) c).set (i * 7 + 3) d).set (i * 7 + 4) e).set (i * 7 + 5) f).set (i * 7 + 6) g := by
  obtain ⟨hi, hxx⟩ := List.getElem?_eq_some_iff.1 hx
  have hl : l = l.take i ++ (x :: l.drop (i + 1)) := by rw [← hxx, ← List.drop_eq_getElem_cons hi, List.take_append_drop]
  have hA : ((l.take i).flatMap enc).length = i * 7 := by rw [flat_len _ (fun y _ => hk y), List.length_take, Nat.min_eq_left (by omega)]
  have hflat : l.flatMap enc = (l.take i).flatMap enc ++ (enc x ++ (l.drop (i + 1)).flatMap enc) := by
    conv => lhs; rw [hl]
    rw [List.flatMap_append, List.flatMap_cons]
  obtain ⟨a', b', c', d', e', f', g', he⟩ : ∃ a b c d e f g, enc x = [a, b, c, d, e, f, g] := by
    have := hk x
    match h : enc x, this with
    | [a, b, c, d, e, f, g], _ => exact ⟨_, _, _, _, _, _, _, rfl⟩
  rw [List.set_eq_take_append_cons_drop, if_pos hi, List.flatMap_append, List.flatMap_cons, hy, hflat, he]
  rw [set_tail0 hA, set_tail hA, set_tail hA, set_tail hA, set_tail hA, set_tail hA, set_tail hA]
  rfl

end Go
namespace Go.Proofs.YtomcenfikdmmkaaGreatDoor
open Go.RowKit Kr
set_option linter.unusedSimpArgs false

set_option maxHeartbeats 1000000 in
theorem r04_TwinScale_own (s : Scale) (tv : Value) (w : World) (hrow : IsRow (fun t : Kr.Trial => [.int .i64 t.weight, .int .i64 t.shown]) 2 w tv s.trials) (hlen : s.trials.length ≤ 1000) :
    Calls Tryz.prog 27 #[.agg #[.int .i64 s.id, .int .i64 s.step, .int .i64 s.gain.lo, .int .i64 s.gain.hi, .int .i64 s.off.lo, .int .i64 s.off.hi, tv]] w fun e w' => ∃ v, e = .returned (.agg #[.int .i64 s.id, .int .i64 s.step, .int .i64 s.gain.lo, .int .i64 s.gain.hi, .int .i64 s.off.lo, .int .i64 s.off.hi, v]) ∧ w'.ownsRow w.heap.size 102 2 v s.trials.length (s.trials.flatMap fun t => [.int .i64 t.weight, .int .i64 t.shown]) ∧ w.Exts w' := by
  obtain ⟨p, cap, rfl⟩ := hrow.len
  have HR := Lib.hid hrow
  clear hrow
  go_enter Tryz.func27, Tryz.ntmps27
  have hown : (((w.alloc (.cells #[.int .i64 s.id, .int .i64 s.step, .int .i64 s.gain.lo, .int .i64 s.gain.hi, .int .i64 s.off.lo, .int .i64 s.off.hi, .slice p s.trials.length cap] 69)).alloc (.cells #[.int .i64 0, .int .i64 0, .int .i64 0, .int .i64 0, .int .i64 0, .int .i64 0, .slice none 0 0] 69)).alloc (.cells #[] 102)).ownsRow (w.heap.size + 1 + 1) 102 2 (.slice (some ⟨w.heap.size + 1 + 1, 0, none⟩) 0 0) 0 [] := ownsRow_new _ _ _ (by simp)
  have HOW := Lib.hid hown
  clear hown
  go_wp2_with (at_builtin; refine wpList_append_row (.tmp 3) (.tmp 5) elem_Trial rfl rfl rfl HOW.out rfl (HR.out.mono (by repeat' (first | with_reducible exact World.Exts.refl _ | with_reducible refine World.Exts.alloc ?_ _ | with_reducible refine World.Exts.drew ?_ | with_reducible refine World.Exts.drewN ?_ _ | with_reducible refine World.Exts.ext ?_ _ | with_reducible refine World.Exts.setCell ?_ ?_ _ | (simp; done) | exact World.size_ext_le _ _ | (simp; omega)))) (fun _ _ => rfl) (fun _ _ u hu => by simp at hu; rcases hu with rfl | rfl <;> rfl) (by omega) (by simp) ?_)
  intro v' w' hown' happ
  obtain ⟨X, rfl⟩ := happ.exts ((w.alloc (.cells #[.int .i64 s.id, .int .i64 s.step, .int .i64 s.gain.lo, .int .i64 s.gain.hi, .int .i64 s.off.lo, .int .i64 s.off.hi, .slice p s.trials.length cap] 69)).alloc (.cells #[.int .i64 0, .int .i64 0, .int .i64 0, .int .i64 0, .int .i64 0, .int .i64 0, .slice none 0 0] 69)) (by repeat' (first | with_reducible exact World.Exts.refl _ | with_reducible refine World.Exts.alloc ?_ _ | with_reducible refine World.Exts.drew ?_ | with_reducible refine World.Exts.drewN ?_ _ | with_reducible refine World.Exts.ext ?_ _ | with_reducible refine World.Exts.setCell ?_ ?_ _ | (simp; done) | exact World.size_ext_le _ _ | (simp; omega))) (by simp)
  have hrow' : IsRow (fun t : Kr.Trial => [.int .i64 t.weight, .int .i64 t.shown]) 2 _ v' s.trials := IsRow.of_owns (by simpa using hown') (fun _ _ => rfl)
  obtain ⟨q, cp, rfl⟩ := hrow'.len
  have HO2 := Lib.hid hown'
  clear hown'
  clear hrow' happ
  go_wp2_with fail
  refine bodyPost_ret (v := .agg #[.int .i64 s.id, .int .i64 s.step, .int .i64 s.gain.lo, .int .i64 s.gain.hi, .int .i64 s.off.lo, .int .i64 s.off.hi, .slice q s.trials.length cp]) (by simp [results, Tryz.results27, go_sem]) rfl ?_
  refine ⟨_, rfl, ?_, (by repeat' (first | with_reducible exact World.Exts.refl _ | with_reducible refine World.Exts.alloc ?_ _ | with_reducible refine World.Exts.drew ?_ | with_reducible refine World.Exts.drewN ?_ _ | with_reducible refine World.Exts.ext ?_ _ | with_reducible refine World.Exts.setCell ?_ ?_ _ | (simp; done) | exact World.size_ext_le _ _ | (simp; omega)))⟩
  have h := HO2.out
  refine ownsRow_lower (base := w.heap.size + 1 + 1) ?_ (by omega)
  iterate 8 refine World.ownsRow.set ?_ (by simp; try omega) _
  simpa using h

def scaleEnc (x : Kr.Scale × Value) : List Value := [.int .i64 x.1.id, .int .i64 x.1.step, .int .i64 x.1.gain.lo, .int .i64 x.1.gain.hi, .int .i64 x.1.off.lo, .int .i64 x.1.off.hi, x.2]
theorem elem_Scale : ElemOf Tryz.prog 22 69 (.agg #[.int .i64 0, .int .i64 0, .int .i64 0, .int .i64 0, .int .i64 0, .int .i64 0, .slice none 0 0]) 7 72 := ⟨Tryz.underlying22, by kernel_rfl, rfl, by decide, by decide⟩

set_option maxRecDepth 4000 in
set_option maxHeartbeats 2000000 in
theorem r04_TwinBay_own (ts : List (Kr.Scale × Value)) (v : Value) (w : World) (hb : BayAt w v ts) (hn : ts.length ≤ 1000) (ht : ∀ x ∈ ts, x.1.trials.length ≤ 1000) :
    Calls Tryz.prog 7 #[.agg #[v]] w fun e w' => ∃ v' ts', e = .returned (.agg #[v']) ∧ BayAt w' v' ts' ∧ ts'.map Prod.fst = ts.map Prod.fst ∧ w.Exts w' ∧ (∀ x ∈ ts', RowT 102 w' x.2) ∧ OffT 69 0 w' v' ts' := by
  have hrow := hb.row
  obtain ⟨p, cap, rfl⟩ := hrow.len
  have htr := hb.tr
  have HB := Lib.hid hb
  clear hb
  have HTR := Lib.hid htr
  clear htr
  have HT := Lib.hid ht
  clear ht
  have HR := Lib.hid hrow
  clear hrow
  go_enter Tryz.func7, Tryz.ntmps7
  go_wp2_with (at_builtin; refine wpList_append_row (.tmp 4) (.tmp 6) elem_Scale rfl rfl rfl (ownsRow_new _ _ _ (by simp)) rfl (HR.out.mono (by repeat' (first | with_reducible exact World.Exts.refl _ | with_reducible refine World.Exts.alloc ?_ _ | with_reducible refine World.Exts.drew ?_ | with_reducible refine World.Exts.drewN ?_ _ | with_reducible refine World.Exts.ext ?_ _ | with_reducible refine World.Exts.setCell ?_ ?_ _ | (simp; done) | exact World.size_ext_le _ _ | (simp; omega)))) (fun _ _ => rfl) (fun y hy u hu => by obtain ⟨q, c, e⟩ := (HTR.out y hy).len; simp [e] at hu; rcases hu with rfl | rfl | rfl | rfl | rfl | rfl | rfl <;> rfl) (by omega) (by simp) ?_)
  intro v1 w1 hown1 happ
  obtain ⟨X1, rfl⟩ := happ.exts ((w.alloc (.cells #[.slice p ts.length cap] 24)).alloc _) (by repeat' (first | with_reducible exact World.Exts.refl _ | with_reducible refine World.Exts.alloc ?_ _ | with_reducible refine World.Exts.drew ?_ | with_reducible refine World.Exts.drewN ?_ _ | with_reducible refine World.Exts.ext ?_ _ | with_reducible refine World.Exts.setCell ?_ ?_ _ | (simp; done) | exact World.size_ext_le _ _ | (simp; omega))) (by simp)
  have hz1 := World.size_ext_le _ X1
  simp at hz1
  rcases Nat.eq_zero_or_pos ts.length with h0 | h0
  · have hts : ts = [] := List.length_eq_zero_iff.1 h0
    subst hts
    have hr1 : IsRow scaleEnc 7 _ v1 [] := IsRow.of_owns (by simpa using hown1) (fun _ _ => rfl)
    obtain ⟨q1, cq1, e1⟩ := hr1.len
    subst e1
    clear happ hown1
    simp only [List.length_nil]
    go_wp2_with fail
    go_loopw [3] (fun i wr => i = .int .i64 0 ∧ wr.cell? ⟨w.heap.size, 0, none⟩ = some (.slice q1 0 cq1) ∧ wr.cell? ⟨w.heap.size + 1, 0, none⟩ = some (.slice none 0 0) ∧ wr.frozen? ⟨w.heap.size + 1, 0, none⟩ = false ∧ Lays wr w.heap.size ∧ Lays wr (w.heap.size + 1) ∧ w.Exts wr) (fun _ _ => 0)
    case atStart => exact ⟨rfl, by simp [go_sem], by simp [go_sem], by simp [go_sem], inferInstance, inferInstance, (by repeat' (first | with_reducible exact World.Exts.refl _ | with_reducible refine World.Exts.alloc ?_ _ | with_reducible refine World.Exts.drew ?_ | with_reducible refine World.Exts.drewN ?_ _ | with_reducible refine World.Exts.ext ?_ _ | with_reducible refine World.Exts.setCell ?_ ?_ _ | (simp; done) | exact World.size_ext_le _ _ | (simp; omega)))⟩
    case round =>
      obtain ⟨rfl, d0, d1, f1, hl1, hl2, hE⟩ := hrel
      obtain ⟨X, rfl⟩ := hE
      go_wp2_with fail
      refine bodyPost_ret (v := .agg #[.slice q1 0 cq1]) (by simp [results, Tryz.results7, go_sem, d1]) rfl ?_
      exact ⟨_, [], rfl, ⟨hr1.nil_any, fun x hx => by simp at hx⟩, rfl, (by repeat' (first | with_reducible exact World.Exts.refl _ | with_reducible refine World.Exts.alloc ?_ _ | with_reducible refine World.Exts.drew ?_ | with_reducible refine World.Exts.drewN ?_ _ | with_reducible refine World.Exts.ext ?_ _ | with_reducible refine World.Exts.setCell ?_ ?_ _ | (simp; done) | exact World.size_ext_le _ _ | (simp; omega))), fun x hx => by simp at hx, .inl rfl⟩
  obtain ⟨g, cg, hv1⟩ : ∃ g cg, v1 = .slice (some ⟨g, 0, none⟩) ts.length cg := by
    rcases hown1.2 with ⟨_, h1⟩ | ⟨g, cg, _, hv, _⟩
    · omega
    · exact ⟨g, cg, by simpa using hv⟩
  subst hv1
  try simp only [Nat.zero_add, List.nil_append] at hown1
  have hgb : w.heap.size + 2 ≤ g := (hown1.lt g rfl).1
  have hblk := BlkAt.of_owns hown1
  have hsct : RowT 69 _ _ := RowT.of_owns hown1
  have hcg : ts.length ≤ cg ∧ cg ≤ 9223372036854775807 := by
    rcases hown1.2 with ⟨h1, _⟩ | ⟨g', c', cur, hv, _, _, h3, h4, _⟩
    · cases h1
    · cases hv; unfold maxLen at h4; omega
  haveI : Differ w.heap.size g := ⟨by omega⟩
  haveI : Differ (w.heap.size + 1) g := ⟨by omega⟩
  haveI : Differ g w.heap.size := ⟨by omega⟩
  haveI : Differ g (w.heap.size + 1) := ⟨by omega⟩
  haveI : Lays (World.ext _ X1) g := ⟨(hown1.lt g rfl).2⟩
  have HBK := Lib.hid hblk
  clear hblk
  have HSC := Lib.hid hsct
  clear hsct
  clear hown1 happ
  go_wp2_with fail
  go_loopw [3] (fun i wr => ∃ k : Nat, k ≤ ts.length ∧ i = .int .i64 k ∧ (∃ L : List (Kr.Scale × Value), Hid (L.map Prod.fst = ts.map Prod.fst ∧ BlkAt wr g (L.flatMap scaleEnc) ∧ ∀ x ∈ L, RowOff (fun t : Kr.Trial => [.int .i64 t.weight, .int .i64 t.shown]) 2 wr [g, w.heap.size + 1] x.2 x.1.trials) ∧ Hid ((∀ i x, i < k → L[i]? = some x → RowT 102 wr x.2) ∧ RowT 69 wr (.slice (some ⟨g, 0, none⟩) ts.length cg))) ∧ wr.cell? ⟨w.heap.size, 0, none⟩ = some (.slice (some ⟨g, 0, none⟩) ts.length cg) ∧ wr.cell? ⟨w.heap.size + 1, 0, none⟩ = some (.slice none 0 0) ∧ wr.frozen? ⟨w.heap.size + 1, 0, none⟩ = false ∧ Lays wr w.heap.size ∧ Lays wr (w.heap.size + 1) ∧ Lays wr g ∧ w.Exts wr) (fun i _ => ts.length - (intOf i).toNat)
  case atStart =>
    refine ⟨0, Nat.zero_le _, rfl, ⟨ts, Lib.hid ⟨rfl, ?_, fun x hx => RowOff.old (HTR.out x hx) (by repeat' (first | with_reducible exact World.Exts.refl _ | with_reducible refine World.Exts.alloc ?_ _ | with_reducible refine World.Exts.drew ?_ | with_reducible refine World.Exts.drewN ?_ _ | with_reducible refine World.Exts.ext ?_ _ | with_reducible refine World.Exts.setCell ?_ ?_ _ | (simp; done) | exact World.size_ext_le _ _ | (simp; omega))) (by simp; omega)⟩, Lib.hid ⟨fun i x hi => absurd hi (Nat.not_lt_zero _), HSC.out.set _ _⟩⟩, by simp [go_sem], by simp [go_sem], by simp [go_sem], inferInstance, inferInstance, inferInstance, (by repeat' (first | with_reducible exact World.Exts.refl _ | with_reducible refine World.Exts.alloc ?_ _ | with_reducible refine World.Exts.drew ?_ | with_reducible refine World.Exts.drewN ?_ _ | with_reducible refine World.Exts.ext ?_ _ | with_reducible refine World.Exts.setCell ?_ ?_ _ | (simp; done) | exact World.size_ext_le _ _ | (simp; omega)))⟩
    exact HBK.out.set_other (by simp; omega) _
  case round =>
    obtain ⟨k, hk, rfl, ⟨L, HL, HLT⟩, d0, d1, f1, hl1, hl2, hl3, hE⟩ := hrel
    obtain ⟨hL1, hL2, hL3⟩ := HL.out
    have hLl : L.length = ts.length := by have h := congrArg List.length hL1; simpa using h
    by_cases hlt : k < ts.length
    · obtain ⟨⟨s, tv⟩, hs⟩ := some_of_lt (xs := L) (k := k) (by omega)
      have hsts : ∃ y ∈ ts, y.1 = s := by
        have h1 : s ∈ L.map Prod.fst := List.mem_map.2 ⟨_, List.mem_of_getElem? hs, rfl⟩
        rw [hL1] at h1
        exact List.mem_map.1 h1
      obtain ⟨y, hy, hys⟩ := hsts
      have hlen := HT.out y hy
      rw [hys] at hlen
      have hft : ∀ j u, (scaleEnc (s, tv))[j]? = some u → (L.flatMap scaleEnc)[k * 7 + j]? = some u := fun j u hu => flat_row (enc := scaleEnc) (size := 7) (fun _ => rfl) hs hu
      have hfl : (L.flatMap scaleEnc).length = L.length * 7 := flat_len L (fun _ _ => rfl)
      have c0 := hL2.cell _ _ (hft 0 _ rfl)
      have c1 := hL2.cell _ _ (hft 1 _ rfl)
      have c2 := hL2.cell _ _ (hft 2 _ rfl)
      have c3 := hL2.cell _ _ (hft 3 _ rfl)
      have c4 := hL2.cell _ _ (hft 4 _ rfl)
      have c5 := hL2.cell _ _ (hft 5 _ rfl)
      have c6 := hL2.cell _ _ (hft 6 _ rfl)
      have r0 := hL2.free (k * 7 + 0) (by omega)
      have r1 := hL2.free (k * 7 + 1) (by omega)
      have r2 := hL2.free (k * 7 + 2) (by omega)
      have r3 := hL2.free (k * 7 + 3) (by omega)
      have r4 := hL2.free (k * 7 + 4) (by omega)
      have r5 := hL2.free (k * 7 + 5) (by omega)
      have r6 := hL2.free (k * 7 + 6) (by omega)
      have htv := hL3 _ (List.mem_of_getElem? hs)
      obtain ⟨q, cq, etv⟩ := htv.row.len
      dsimp only at etv htv
      subst etv
      simp only [Nat.add_zero] at c0 r0
      obtain ⟨X, rfl⟩ := hE
      clear hL1 hL2 hL3 hft hfl hy hys
      have HS := Lib.hid hs
      clear hs
      have HV := Lib.hid htv
      clear htv
      go_wp2_with fail
      refine wp_region_calls 10 (fun i => i == 8) (fun c v W => ∃ v' B, v = .agg #[.int .i64 s.id, .int .i64 s.step, .int .i64 s.gain.lo, .int .i64 s.gain.hi, .int .i64 s.off.lo, .int .i64 s.off.hi, v'] ∧ g < B ∧ W.ownsRow B 102 2 v' s.trials.length (s.trials.flatMap fun t => [.int .i64 t.weight, .int .i64 t.shown])) (by kernel_rfl) (fun ν => by kernel_rfl) (by kernel_rfl) (by kernel_rfl) (by kernel_rfl) (by kernel_rfl) ?mono ?_
      rotate_left 1
      apply Exists.intro
      refine ⟨fun ν L hL => ?_, fun c oc hc hU ν W hE hΦ => ?_, fun ν W hE hΦ => ?_⟩
      · simp only [modU, cOp, List.mapIdx_cons, List.mapIdx_nil, Nat.zero_add, Nat.reduceAdd, Nat.reduceBEq, Bool.or_false, Bool.false_or, Bool.or_true, Bool.true_or, Bool.or_self, Bool.false_eq_true, if_false, if_true, List.take_succ_cons, List.take_zero]
        repeat (go_big_quiet_step (fail))
        exact wpQuiet_nil hL
      · simp at hU
        subst hU
        simp only [List.getElem?_cons_succ, List.getElem?_cons_zero, Option.some.injEq] at hc
        subst hc
        refine Oper.gives_fn rfl rfl rfl (enters_of Tryz.func27 (by kernel_rfl) rfl) ?_ rfl
        refine (r04_TwinScale_own s _ _ (HV.out.row.mono hE) hlen).mono ?_
        rintro e W' ⟨v', rfl, h1, h2⟩
        exact ⟨_, rfl, h2, v', _, rfl, (hE.lays hl3).lt, h1⟩
      · obtain ⟨v', B, hν, hB, hown⟩ := hΦ 8 (by decide) rfl
        simp only [List.drop_succ_cons, List.drop_zero]
        rw [hν]
        obtain ⟨q2, cq2, e2⟩ := (IsRow.of_owns hown (fun _ _ => rfl)).len
        subst e2
        have hot : RowT 102 W (.slice q2 s.trials.length cq2) := RowT.of_owns hown
        have hoff : RowOff (fun t : Kr.Trial => [.int .i64 t.weight, .int .i64 t.shown]) 2 W [g, w.heap.size + 1] _ s.trials := RowOff.own hown (fun _ _ => rfl) (by simp; omega)
        obtain ⟨XS, rfl⟩ := hE
        have HO := Lib.hid hoff
        clear hoff
        have HOT := Lib.hid hot
        clear hot
        clear hown hΦ hν
        go_wp2_with fail
        go_roundw
        case rel =>
          obtain ⟨hL1, hL2, hL3⟩ := HL.out
          have hLl : L.length = ts.length := by have h := congrArg List.length hL1; simpa using h
          have hfl : (L.flatMap scaleEnc).length = L.length * 7 := flat_len L (fun _ _ => rfl)
          refine ⟨k + 1, by omega, by go_num, ⟨L.set k (s, .slice q2 s.trials.length cq2), Lib.hid ⟨?_, ?_, ?_⟩, ?_⟩, by simp [go_sem, d0], by simp [go_sem, d1], by simp [go_sem, f1], inferInstance, inferInstance, inferInstance, (by repeat' (first | with_reducible exact World.Exts.refl _ | with_reducible refine World.Exts.alloc ?_ _ | with_reducible refine World.Exts.drew ?_ | with_reducible refine World.Exts.drewN ?_ _ | with_reducible refine World.Exts.ext ?_ _ | with_reducible refine World.Exts.setCell ?_ ?_ _ | (simp; done) | exact World.size_ext_le _ _ | (simp; omega)))⟩
          · exact (map_set_same (f := Prod.fst) (y := (s, .slice q2 s.trials.length cq2)) HS.out rfl).trans hL1
          · rw [flat_put7 (enc := scaleEnc) (y := (s, .slice q2 s.trials.length cq2)) (fun _ => rfl) HS.out rfl]
            iterate 7 refine BlkAt.set ?_ (by (try simp only [List.length_set]); omega) _
            exact hL2.exts (by repeat' (first | with_reducible exact World.Exts.refl _ | with_reducible refine World.Exts.alloc ?_ _ | with_reducible refine World.Exts.drew ?_ | with_reducible refine World.Exts.drewN ?_ _ | with_reducible refine World.Exts.ext ?_ _ | with_reducible refine World.Exts.setCell ?_ ?_ _ | (simp; done) | exact World.size_ext_le _ _ | (simp; omega)))
          · intro x hx
            rcases List.mem_or_eq_of_mem_set hx with h | rfl
            · iterate 7 refine RowOff.set ?_ (by simp) _
              exact (hL3 x h).exts (by repeat' (first | with_reducible exact World.Exts.refl _ | with_reducible refine World.Exts.alloc ?_ _ | with_reducible refine World.Exts.drew ?_ | with_reducible refine World.Exts.drewN ?_ _ | with_reducible refine World.Exts.ext ?_ _ | with_reducible refine World.Exts.setCell ?_ ?_ _ | (simp; done) | exact World.size_ext_le _ _ | (simp; omega)))
            · iterate 7 refine RowOff.set ?_ (by simp) _
              exact HO.out
          · refine Lib.hid ⟨fun i x hi hx => ?_, ?_⟩
            rotate_left 1
            · iterate 7 refine RowT.set ?_ _ _
              exact HLT.out.2.exts (by repeat' (first | with_reducible exact World.Exts.refl _ | with_reducible refine World.Exts.alloc ?_ _ | with_reducible refine World.Exts.drew ?_ | with_reducible refine World.Exts.drewN ?_ _ | with_reducible refine World.Exts.ext ?_ _ | with_reducible refine World.Exts.setCell ?_ ?_ _ | (simp; done) | exact World.size_ext_le _ _ | (simp; omega)))
            iterate 7 refine RowT.set ?_ _ _
            by_cases hik : k = i
            · subst hik
              rw [List.getElem?_set_self (by omega)] at hx
              cases hx
              exact HOT.out
            · rw [List.getElem?_set_ne hik] at hx
              exact (HLT.out.1 i x (by omega) hx).exts (by repeat' (first | with_reducible exact World.Exts.refl _ | with_reducible refine World.Exts.alloc ?_ _ | with_reducible refine World.Exts.drew ?_ | with_reducible refine World.Exts.drewN ?_ _ | with_reducible refine World.Exts.ext ?_ _ | with_reducible refine World.Exts.setCell ?_ ?_ _ | (simp; done) | exact World.size_ext_le _ _ | (simp; omega)))
        case measure => simp [intOf]; omega
      case mono =>
        rintro c v W W' ⟨v', B, rfl, h1, h2⟩ hE
        exact ⟨v', B, rfl, h1, ownsRow_exts h2 hE⟩
    · obtain ⟨X, rfl⟩ := hE
      clear hL1 hL2 hL3
      go_wp2_with fail
      refine bodyPost_ret (v := .agg #[.slice (some ⟨g, 0, none⟩) ts.length cg]) (by simp [results, Tryz.results7, go_sem, d1]) rfl ?_
      obtain ⟨hL1, hL2, hL3⟩ := HL.out
      refine ⟨_, L, rfl, ⟨?_, fun x hx => (RowOff.set (a := ⟨w.heap.size + 1, 0, none⟩) (hL3 x hx) (by simp) _).row⟩, hL1, (by repeat' (first | with_reducible exact World.Exts.refl _ | with_reducible refine World.Exts.alloc ?_ _ | with_reducible refine World.Exts.drew ?_ | with_reducible refine World.Exts.drewN ?_ _ | with_reducible refine World.Exts.ext ?_ _ | with_reducible refine World.Exts.setCell ?_ ?_ _ | (simp; done) | exact World.size_ext_le _ _ | (simp; omega))), fun x hx => by obtain ⟨i, hi⟩ := List.mem_iff_getElem?.1 hx; exact (HLT.out.1 i x (by have := lt_of_some hi; omega) hi).set _ _, .inr (.inr (HLT.out.2.set _ _))⟩
      rw [← hLl]
      refine IsRow.of_blk (fun _ => rfl) (hL2.set_other ?_ _) inferInstance (by omega)
      show w.heap.size + 1 ≠ g
      omega
theorem r04_TwinBay_any (ts : List (Kr.Scale × Value)) (v : Value) (w : World) (hb : BayAt w v ts) (hn : ts.length ≤ 1000) (ht : ∀ x ∈ ts, x.1.trials.length ≤ 1000) :
    Calls Tryz.prog 7 #[.agg #[v]] w fun e w' => ∃ v' ts', e = .returned (.agg #[v']) ∧ BayAt w' v' ts' ∧ ts'.map Prod.fst = ts.map Prod.fst ∧ w.Exts w' :=
  (r04_TwinBay_own ts v w hb hn ht).mono fun _ _ ⟨v', ts', h1, h2, h3, h4, _⟩ => ⟨v', ts', h1, h2, h3, h4⟩
end Go.Proofs.YtomcenfikdmmkaaGreatDoor
