/-
  The law ScaleTotals: its walk.
-/
import Derived.Test.YtmkhjcgaidmehaaGreatTw
import Derived.Test.YtmkhjcgaidmehaaGreatTq
import Derived.Test.YtmkhjcgaidmehaaGreatTs
import Derived.Test.YtmkhjcgaidmehaaGreatTk
import Derived.Test.YtmkhjcgaidmehaaGreatTl
import Derived.Test.YtmkhjcgaidmehaaGreatTj
import Derived.Test.YtmkhjcgaidmehaaGreatRg
namespace Go.Proofs.YtmkhjcgaidmehaaGreat
open Go.RowKit Kr
set_option linter.unusedSimpArgs false

theorem row_pair_of {w : World} {v : Value} {l : List Part} (h : IsRow (fun q : Part => [.int .i64 q.gain, .int .i64 q.off]) 2 w v l) : IsRow (fun t : Int × Int => [.int .i64 t.1, .int .i64 t.2]) 2 w v (l.map fun q => (q.gain, q.off)) := by
  obtain ⟨p, b, o, cap, rfl, hm, hp, hc⟩ := h.ex
  refine ⟨p, b, o, cap, by rw [List.length_map], by rw [List.length_map]; exact hm, fun h0 => hp (by rw [List.length_map] at h0; exact h0), fun i x hx j u hu => ?_⟩
  rw [List.getElem?_map] at hx
  cases hq : l[i]? with
  | none => rw [hq] at hx; cases hx
  | some q => rw [hq] at hx; cases hx; exact hc i q hq j u hu
theorem LaysAs.ne {W : World} {b c : Nat} {cs ds : Array Value} {t u : TypeId} {f e : Nat × Nat} (h : LaysAs W b (.cells cs t f)) (h2 : LaysAs W c (.cells ds u e)) (hne : t ≠ u) : b ≠ c := fun e => by
  subst e
  unfold LaysAs at h h2
  rw [h] at h2
  simp at h2
  exact hne h2.2.1
/-- Rows of other types lie beside two boxes. -/
theorem RowT.beside {α : Type} {enc : α → List Value} {k : Nat} {t t4 t5 : TypeId} {W : World} {v : Value} {xs : List α} {p4 p5 : Nat} {c4 c5 : Array Value} {f4 f5 : Nat × Nat} (hr : IsRow enc k W v xs) (h : RowT t W v)
    (h4 : LaysAs W p4 (.cells c4 t4 f4)) (h5 : LaysAs W p5 (.cells c5 t5 f5)) (n4 : t ≠ t4) (n5 : t ≠ t5) : RowOff enc k W [p4, p5] v xs :=
  ⟨hr, .inr fun g hg => by
    simp at hg
    rcases hg with rfl | rfl
    · exact h.off h4 n4
    · exact h.off h5 n5⟩
theorem OffT.beside {α : Type} {enc : α → List Value} {k : Nat} {t t4 t5 : TypeId} {W : World} {v : Value} {xs : List α} {p4 p5 : Nat} {c4 c5 : Array Value} {f4 f5 : Nat × Nat} (hr : IsRow enc k W v xs) (h : OffT t 0 W v xs)
    (h4 : LaysAs W p4 (.cells c4 t4 f4)) (h5 : LaysAs W p5 (.cells c5 t5 f5)) (n4 : t ≠ t4) (n5 : t ≠ t5) : RowOff enc k W [p4, p5] v xs := by
  refine ⟨hr, ?_⟩
  rcases h with h | h | h
  · exact .inl h
  · refine .inr fun g _ e => ?_
    have := h g e
    omega
  · exact (RowT.beside hr h h4 h5 n4 n5).off
/-- Nine stores into two boxes. -/
def putTwins (W : World) (p4 p5 : Nat) (g : Gear) (b l r s : Value) : World :=
  (((((((((W.setCell ⟨p4, 0, none⟩ b).setCell ⟨p5, 0, none⟩ l).setCell ⟨p5, 1, none⟩ (.int .i64 g.added)).setCell ⟨p5, 2, none⟩ (.int .i64 g.base)).setCell ⟨p5, 3, none⟩ (.int .i64 g.jitter)).setCell ⟨p5, 4, none⟩ r).setCell ⟨p5, 5, none⟩ s).setCell ⟨p5, 6, none⟩ (.int .i64 g.spread)).setCell ⟨p5, 7, none⟩ (.bool g.stamp))
theorem rowOff_put {α : Type} {enc : α → List Value} {k : Nat} {W : World} {v : Value} {xs : List α} {p4 p5 : Nat} (h : RowOff enc k W [p4, p5] v xs) (g : Gear) (b l r s : Value) : IsRow enc k (putTwins W p4 p5 g b l r s) v xs := by
  unfold putTwins
  refine RowOff.row (G := [p4, p5]) ?_
  iterate 9 refine RowOff.set ?_ (by simp) _
  exact h
/-- What the region of the twins leaves: a bay, gear, and two boxes. -/
def TwinOne (ts : List (Kr.Scale × Value)) (g : Gear) (b c : Nat) (W : World) (v : Value) : Prop :=
  (c = 1 → ∃ v' ts', v = .agg #[v'] ∧ BayAt W v' ts' ∧ ts'.map Prod.fst = ts.map Prod.fst ∧ (∀ x ∈ ts', RowT 110 W x.2) ∧ OffT 60 0 W v' ts') ∧ (c = 3 → ∃ l r s, v = .agg #[l, .int .i64 g.added, .int .i64 g.base, .int .i64 g.jitter, r, s, .int .i64 g.spread, .bool g.stamp] ∧ GearAt W (g, l, r, s) ∧ RowT 88 W l ∧ RowT 3 W r ∧ RowT 3 W s) ∧
  (c = 4 → ∃ pp, v = .pointer (some ⟨pp, 0, none⟩) ∧ b ≤ pp ∧ LaysAs W pp (.cells [.slice none 0 0].toArray 24 (0, 0))) ∧
  (c = 5 → ∃ pp, v = .pointer (some ⟨pp, 0, none⟩) ∧ b ≤ pp ∧ LaysAs W pp (.cells [.slice none 0 0, .int .i64 0, .int .i64 0, .int .i64 0, .slice none 0 0, .slice none 0 0, .int .i64 0, .bool false].toArray 28 (0, 0)))
theorem TwinOne.mono {ts : List (Kr.Scale × Value)} {g : Gear} {b c : Nat} {W W' : World} {v : Value} (h : TwinOne ts g b c W v) (hE : W.Exts W') : TwinOne ts g b c W' v :=
  ⟨fun e => by obtain ⟨v', ts', h1, h2, h3, h4, h5⟩ := h.1 e; exact ⟨v', ts', h1, h2.mono hE, h3, fun x hx => (h4 x hx).exts hE, h5.exts hE⟩, fun e => by obtain ⟨l, r, s, h1, h2, h3, h4, h5⟩ := h.2.1 e; exact ⟨l, r, s, h1, h2.mono hE, h3.exts hE, h4.exts hE, h5.exts hE⟩,
   fun e => by obtain ⟨pp, h1, h2, h3⟩ := h.2.2.1 e; exact ⟨pp, h1, h2, h3.exts hE⟩, fun e => by obtain ⟨pp, h1, h2, h3⟩ := h.2.2.2 e; exact ⟨pp, h1, h2, h3.exts hE⟩⟩

set_option maxRecDepth 4000 in
set_option maxHeartbeats 4000000 in
theorem l04b_any (ts : List (Kr.Scale × Value)) (v : Value) (g : Gear) (lv rv sv : Value) (total : Int) (w : World) (hrow : BayAt w v ts)
    (hl : IsRow (fun t : Kr.Load => [.int .i64 t.scale, .int .i64 t.shown]) 2 w lv g.loads) (hr : IsRow (fun x : Int => [.int .i64 x]) 1 w rv g.runners) (hs : IsRow (fun x : Int => [.int .i64 x]) 1 w sv g.strokes) (hwf : ∀ l ∈ g.loads, (Lit.int .i64 l.scale).wf = true) :
    Calls Tryz.prog 3 #[.agg #[v], .agg #[lv, .int .i64 g.added, .int .i64 g.base, .int .i64 g.jitter, rv, sv, .int .i64 g.spread, .bool g.stamp], .int .i64 total] w fun e w' => e = .returned (.bool true) ∧ w.Exts w' := by
  have HB := Lib.hid hrow
  clear hrow
  have HL := Lib.hid hl
  clear hl
  have HR := Lib.hid hr
  clear hr
  have HS := Lib.hid hs
  clear hs
  obtain ⟨q0, cp0, rfl⟩ := HB.out.row.len
  obtain ⟨q1, cp1, rfl⟩ := HL.out.len
  obtain ⟨q2, cp2, rfl⟩ := HR.out.len
  obtain ⟨q3, cp3, rfl⟩ := HS.out.len
  cases hg : great ts g
  case true =>
    have HG := Lib.hid hg
    clear hg
    go_enter Tryz.func3, Tryz.ntmps3
    go_wp2_with (go_at_call 4; refine (r04_Great_any ts _ g _ _ _ _ (HB.out.mono (by repeat' (first | with_reducible exact World.Exts.refl _ | with_reducible refine World.Exts.alloc ?_ _ | with_reducible refine World.Exts.drew ?_ | with_reducible refine World.Exts.drewN ?_ _ | with_reducible refine World.Exts.ext ?_ _ | with_reducible refine World.Exts.setCell ?_ ?_ _ | (simp; done) | exact World.size_ext_le _ _ | (simp; omega)))) (HL.out.mono (by repeat' (first | with_reducible exact World.Exts.refl _ | with_reducible refine World.Exts.alloc ?_ _ | with_reducible refine World.Exts.drew ?_ | with_reducible refine World.Exts.drewN ?_ _ | with_reducible refine World.Exts.ext ?_ _ | with_reducible refine World.Exts.setCell ?_ ?_ _ | (simp; done) | exact World.size_ext_le _ _ | (simp; omega)))) (HR.out.mono (by repeat' (first | with_reducible exact World.Exts.refl _ | with_reducible refine World.Exts.alloc ?_ _ | with_reducible refine World.Exts.drew ?_ | with_reducible refine World.Exts.drewN ?_ _ | with_reducible refine World.Exts.ext ?_ _ | with_reducible refine World.Exts.setCell ?_ ?_ _ | (simp; done) | exact World.size_ext_le _ _ | (simp; omega)))) (HS.out.mono (by repeat' (first | with_reducible exact World.Exts.refl _ | with_reducible refine World.Exts.alloc ?_ _ | with_reducible refine World.Exts.drew ?_ | with_reducible refine World.Exts.drewN ?_ _ | with_reducible refine World.Exts.ext ?_ _ | with_reducible refine World.Exts.setCell ?_ ?_ _ | (simp; done) | exact World.size_ext_le _ _ | (simp; omega))))).mono ?_; rintro e w' ⟨rfl, X2, rfl⟩; rw [HG.out])
    go_ret
    exact ⟨rfl, (by repeat' (first | with_reducible exact World.Exts.refl _ | with_reducible refine World.Exts.alloc ?_ _ | with_reducible refine World.Exts.drew ?_ | with_reducible refine World.Exts.drewN ?_ _ | with_reducible refine World.Exts.ext ?_ _ | with_reducible refine World.Exts.setCell ?_ ?_ _ | (simp; done) | exact World.size_ext_le _ _ | (simp; omega)))⟩
  have hgear : GearAt w (g, .slice q1 g.loads.length cp1, .slice q2 g.runners.length cp2, .slice q3 g.strokes.length cp3) :=
    ⟨HL.out, HR.out, HS.out, by simp [great] at hg; dsimp only; omega, hwf⟩
  have hbl : ts.length ≤ 1000 ∧ (∀ x ∈ ts, x.1.trials.length ≤ 1000) ∧ g.loads.length ≤ 1000 ∧ g.runners.length ≤ 1000 ∧ g.strokes.length ≤ 1000 := by
    simp [great] at hg
    obtain ⟨g1, g2⟩ := hg
    refine ⟨by omega, fun x hx => ?_, by omega, by omega, by omega⟩
    have := g2 x.1 x.2 hx
    omega
  obtain ⟨b1, b2, b3, b4, b5⟩ := hbl
  have HG := Lib.hid hg
  clear hg
  have HGA := Lib.hid hgear
  clear hgear
  have HB2 := Lib.hid b2
  clear b2
  clear hwf
  go_enter Tryz.func3, Tryz.ntmps3
  go_wp2_with (go_at_call 4; refine (r04_Great_any ts _ g _ _ _ _ (HB.out.mono (by repeat' (first | with_reducible exact World.Exts.refl _ | with_reducible refine World.Exts.alloc ?_ _ | with_reducible refine World.Exts.drew ?_ | with_reducible refine World.Exts.drewN ?_ _ | with_reducible refine World.Exts.ext ?_ _ | with_reducible refine World.Exts.setCell ?_ ?_ _ | (simp; done) | exact World.size_ext_le _ _ | (simp; omega)))) (HL.out.mono (by repeat' (first | with_reducible exact World.Exts.refl _ | with_reducible refine World.Exts.alloc ?_ _ | with_reducible refine World.Exts.drew ?_ | with_reducible refine World.Exts.drewN ?_ _ | with_reducible refine World.Exts.ext ?_ _ | with_reducible refine World.Exts.setCell ?_ ?_ _ | (simp; done) | exact World.size_ext_le _ _ | (simp; omega)))) (HR.out.mono (by repeat' (first | with_reducible exact World.Exts.refl _ | with_reducible refine World.Exts.alloc ?_ _ | with_reducible refine World.Exts.drew ?_ | with_reducible refine World.Exts.drewN ?_ _ | with_reducible refine World.Exts.ext ?_ _ | with_reducible refine World.Exts.setCell ?_ ?_ _ | (simp; done) | exact World.size_ext_le _ _ | (simp; omega)))) (HS.out.mono (by repeat' (first | with_reducible exact World.Exts.refl _ | with_reducible refine World.Exts.alloc ?_ _ | with_reducible refine World.Exts.drew ?_ | with_reducible refine World.Exts.drewN ?_ _ | with_reducible refine World.Exts.ext ?_ _ | with_reducible refine World.Exts.setCell ?_ ?_ _ | (simp; done) | exact World.size_ext_le _ _ | (simp; omega))))).mono ?_; rintro e w' ⟨rfl, X2, rfl⟩; rw [HG.out])
  refine wp_region_calls 6 (fun i => i == 1 || i == 3 || i == 4 || i == 5) (fun c v W => TwinOne ts g (w.heap.size + 2) c W v) (by kernel_rfl) (fun ν => by kernel_rfl) (by kernel_rfl) (by kernel_rfl) (by kernel_rfl) (by kernel_rfl) ?mono ?_
  rotate_left 1
  apply Exists.intro
  refine ⟨fun ν L hL => ?_, fun c oc hc hU ν W hE hΦ => ?_, fun ν W hE hΦ => ?_⟩
  · simp only [modU, cOp, List.mapIdx_cons, List.mapIdx_nil, Nat.zero_add, Nat.reduceAdd, Nat.reduceBEq, Bool.or_false, Bool.false_or, Bool.or_true, Bool.true_or, Bool.or_self, Bool.false_eq_true, if_false, if_true, List.take_succ_cons, List.take_zero]
    repeat (go_big_quiet_step (fail))
    exact wpQuiet_nil hL
  · simp at hU
    have hwW : w.Exts W := World.Exts.trans (by repeat' (first | with_reducible exact World.Exts.refl _ | with_reducible refine World.Exts.alloc ?_ _ | with_reducible refine World.Exts.drew ?_ | with_reducible refine World.Exts.drewN ?_ _ | with_reducible refine World.Exts.ext ?_ _ | with_reducible refine World.Exts.setCell ?_ ?_ _ | (simp; done) | exact World.size_ext_le _ _ | (simp; omega))) hE
    have hsz2 : w.heap.size + 2 ≤ W.heap.size := by
      have h1 := hE.size
      have h2 := World.size_ext_le _ X2
      simp at h2
      omega
    rcases hU with ((rfl | rfl) | rfl) | rfl
    · simp only [List.getElem?_cons_succ, List.getElem?_cons_zero, Option.some.injEq] at hc
      subst hc
      refine Oper.gives_fn rfl rfl rfl (enters_of Tryz.func5 (by kernel_rfl) rfl) ?_ rfl
      refine (r04_TwinBay_own ts _ W (HB.out.mono hwW) b1 HB2.out).mono ?_
      rintro e W' ⟨v', ts', rfl, h1, h2, h3, h4, h5⟩
      exact ⟨_, rfl, h3, fun _ => ⟨v', ts', rfl, h1, h2, h4, h5⟩, fun e => (by cases e), fun e => (by cases e), fun e => (by cases e)⟩
    · simp only [List.getElem?_cons_succ, List.getElem?_cons_zero, Option.some.injEq] at hc
      subst hc
      refine Oper.gives_fn rfl rfl rfl (enters_of Tryz.func6 (by kernel_rfl) rfl) ?_ rfl
      refine (r04_TwinGear_own g _ _ _ W (HGA.out.mono hwW) b3 b4 b5).mono ?_
      rintro e W' ⟨l', r', s', rfl, h1, h2, h3, h4, h5⟩
      exact ⟨_, rfl, h2, fun e => (by cases e), fun _ => ⟨l', r', s', rfl, h1, h3, h4, h5⟩, fun e => (by cases e), fun e => (by cases e)⟩
    · simp only [List.getElem?_cons_succ, List.getElem?_cons_zero, Option.some.injEq] at hc
      subst hc
      refine .inr ⟨.pointer (some ⟨W.heap.size, 0, none⟩), W.alloc (.cells #[.slice none 0 0] 24), by kernel_rfl, (by repeat' (first | with_reducible exact World.Exts.refl _ | with_reducible refine World.Exts.alloc ?_ _ | with_reducible refine World.Exts.drew ?_ | with_reducible refine World.Exts.drewN ?_ _ | with_reducible refine World.Exts.ext ?_ _ | with_reducible refine World.Exts.setCell ?_ ?_ _ | (simp; done) | exact World.size_ext_le _ _ | (simp; omega))), fun e => (by cases e), fun e => (by cases e), fun _ => ⟨_, rfl, hsz2, laysAs_size W _ rfl⟩, fun e => (by cases e)⟩
    · simp only [List.getElem?_cons_succ, List.getElem?_cons_zero, Option.some.injEq] at hc
      subst hc
      refine .inr ⟨.pointer (some ⟨W.heap.size, 0, none⟩), W.alloc (.cells #[.slice none 0 0, .int .i64 0, .int .i64 0, .int .i64 0, .slice none 0 0, .slice none 0 0, .int .i64 0, .bool false] 28), by kernel_rfl, (by repeat' (first | with_reducible exact World.Exts.refl _ | with_reducible refine World.Exts.alloc ?_ _ | with_reducible refine World.Exts.drew ?_ | with_reducible refine World.Exts.drewN ?_ _ | with_reducible refine World.Exts.ext ?_ _ | with_reducible refine World.Exts.setCell ?_ ?_ _ | (simp; done) | exact World.size_ext_le _ _ | (simp; omega))), fun e => (by cases e), fun e => (by cases e), fun e => (by cases e), fun _ => ⟨_, rfl, hsz2, laysAs_size W _ rfl⟩⟩
  · obtain ⟨vb, ts', hν1, hbA, hts, hbT, hbS⟩ := (hΦ 1 (by decide) rfl).1 rfl
    obtain ⟨l', r', s', hν3, hgA, hT1, hT2, hT3⟩ := (hΦ 3 (by decide) rfl).2.1 rfl
    obtain ⟨p4, hν4, hb4, hp4⟩ := (hΦ 4 (by decide) rfl).2.2.1 rfl
    obtain ⟨p5, hν5, hb5, hp5⟩ := (hΦ 5 (by decide) rfl).2.2.2 rfl
    have hne : p4 ≠ p5 := fun e => by
      subst e
      unfold LaysAs at hp4 hp5
      rw [hp4] at hp5
      simp at hp5
    have hwW3 : w.Exts W := World.Exts.trans (by repeat' (first | with_reducible exact World.Exts.refl _ | with_reducible refine World.Exts.alloc ?_ _ | with_reducible refine World.Exts.drew ?_ | with_reducible refine World.Exts.drewN ?_ _ | with_reducible refine World.Exts.ext ?_ _ | with_reducible refine World.Exts.setCell ?_ ?_ _ | (simp; done) | exact World.size_ext_le _ _ | (simp; omega))) hE
    simp only [List.drop_succ_cons, List.drop_zero]
    generalize ν 1 = v1 at hν1 ⊢
    generalize ν 3 = v3 at hν3 ⊢
    generalize ν 4 = v4 at hν4 ⊢
    generalize ν 5 = v5 at hν5 ⊢
    subst hν1 hν3 hν4 hν5
    have hbA2 : BayAt (putTwins W p4 p5 g vb l' r' s') vb ts' := ⟨rowOff_put (OffT.beside hbA.row hbS hp4 hp5 (by decide) (by decide)) g vb l' r' s', fun x hx => rowOff_put (RowT.beside (hbA.tr x hx) (hbT x hx) hp4 hp5 (by decide) (by decide)) g vb l' r' s'⟩
    have hgA2 : GearAt (putTwins W p4 p5 g vb l' r' s') (g, l', r', s') := ⟨rowOff_put (RowT.beside hgA.l hT1 hp4 hp5 (by decide) (by decide)) g vb l' r' s', rowOff_put (RowT.beside hgA.r hT2 hp4 hp5 (by decide) (by decide)) g vb l' r' s', rowOff_put (RowT.beside hgA.s hT3 hp4 hp5 (by decide) (by decide)) g vb l' r' s', hgA.len, hgA.wf⟩
    have hEV : w.Exts (putTwins W p4 p5 g vb l' r' s') := by
      unfold putTwins
      iterate 9 refine World.Exts.setCell ?_ (by dsimp only; omega) _
      exact hwW3
    obtain ⟨qb, cb, rfl⟩ := hbA2.row.len
    obtain ⟨ql, cl, e1⟩ : ∃ p c, l' = .slice p g.loads.length c := hgA2.l.len
    obtain ⟨qr, cr, e2⟩ : ∃ p c, r' = .slice p g.runners.length c := hgA2.r.len
    obtain ⟨qs, cs, e3⟩ : ∃ p c, s' = .slice p g.strokes.length c := hgA2.s.len
    subst e1 e2 e3
    have c4 := LaysAs.cell hp4 0 _ rfl
    have c50 := LaysAs.cell hp5 0 _ rfl
    have c51 := LaysAs.cell hp5 1 _ rfl
    have c52 := LaysAs.cell hp5 2 _ rfl
    have c53 := LaysAs.cell hp5 3 _ rfl
    have c54 := LaysAs.cell hp5 4 _ rfl
    have c55 := LaysAs.cell hp5 5 _ rfl
    have c56 := LaysAs.cell hp5 6 _ rfl
    have c57 := LaysAs.cell hp5 7 _ rfl
    have hfr4 : W.frozen? ⟨p4, 0, none⟩ = false := by unfold LaysAs at hp4; simp [World.frozen?, hp4]
    have hfr5 : ∀ i, W.frozen? ⟨p5, i, none⟩ = false := fun i => by unfold LaysAs at hp5; simp [World.frozen?, hp5]
    have hl4 := Lays.of_cell c4
    have hl5 := Lays.of_cell c50
    haveI : Differ p4 p5 := ⟨hne⟩
    haveI : Differ p5 p4 := ⟨fun e => hne e.symm⟩
    have hf50 := hfr5 0
    have hf51 := hfr5 1
    have hf52 := hfr5 2
    have hf53 := hfr5 3
    have hf54 := hfr5 4
    have hf55 := hfr5 5
    have hf56 := hfr5 6
    have hf57 := hfr5 7
    have o0W : W.cell? ⟨w.heap.size, 0, none⟩ = some (.slice q0 ts.length cp0) := by obtain ⟨XX, rfl⟩ := hE; simp [go_sem]
    have o10W : W.cell? ⟨w.heap.size + 1, 0, none⟩ = some (.slice q1 g.loads.length cp1) := by obtain ⟨XX, rfl⟩ := hE; simp [go_sem]
    have o11W : W.cell? ⟨w.heap.size + 1, 1, none⟩ = some (.int .i64 g.added) := by obtain ⟨XX, rfl⟩ := hE; simp [go_sem]
    have o12W : W.cell? ⟨w.heap.size + 1, 2, none⟩ = some (.int .i64 g.base) := by obtain ⟨XX, rfl⟩ := hE; simp [go_sem]
    have o13W : W.cell? ⟨w.heap.size + 1, 3, none⟩ = some (.int .i64 g.jitter) := by obtain ⟨XX, rfl⟩ := hE; simp [go_sem]
    have o14W : W.cell? ⟨w.heap.size + 1, 4, none⟩ = some (.slice q2 g.runners.length cp2) := by obtain ⟨XX, rfl⟩ := hE; simp [go_sem]
    have o15W : W.cell? ⟨w.heap.size + 1, 5, none⟩ = some (.slice q3 g.strokes.length cp3) := by obtain ⟨XX, rfl⟩ := hE; simp [go_sem]
    have o16W : W.cell? ⟨w.heap.size + 1, 6, none⟩ = some (.int .i64 g.spread) := by obtain ⟨XX, rfl⟩ := hE; simp [go_sem]
    have o17W : W.cell? ⟨w.heap.size + 1, 7, none⟩ = some (.bool g.stamp) := by obtain ⟨XX, rfl⟩ := hE; simp [go_sem]
    haveI : Differ p4 w.heap.size := ⟨by omega⟩
    haveI : Differ p5 w.heap.size := ⟨by omega⟩
    haveI : Differ p4 (w.heap.size + 1) := ⟨by omega⟩
    haveI : Differ p5 (w.heap.size + 1) := ⟨by omega⟩
    obtain ⟨V, hV⟩ : ∃ V, putTwins W p4 p5 g (.slice qb ts'.length cb) (.slice ql g.loads.length cl) (.slice qr g.runners.length cr) (.slice qs g.strokes.length cs) = V := ⟨_, rfl⟩
    have r4 : V.cell? ⟨p4, 0, none⟩ = some (.slice qb ts'.length cb) := by rw [← hV]; simp [putTwins, go_sem, c4]
    have r50 : V.cell? ⟨p5, 0, none⟩ = some (.slice ql g.loads.length cl) := by rw [← hV]; simp [putTwins, go_sem, c50]
    have r51 : V.cell? ⟨p5, 1, none⟩ = some (.int .i64 g.added) := by rw [← hV]; simp [putTwins, go_sem, c51]
    have r52 : V.cell? ⟨p5, 2, none⟩ = some (.int .i64 g.base) := by rw [← hV]; simp [putTwins, go_sem, c52]
    have r53 : V.cell? ⟨p5, 3, none⟩ = some (.int .i64 g.jitter) := by rw [← hV]; simp [putTwins, go_sem, c53]
    have r54 : V.cell? ⟨p5, 4, none⟩ = some (.slice qr g.runners.length cr) := by rw [← hV]; simp [putTwins, go_sem, c54]
    have r55 : V.cell? ⟨p5, 5, none⟩ = some (.slice qs g.strokes.length cs) := by rw [← hV]; simp [putTwins, go_sem, c55]
    have r56 : V.cell? ⟨p5, 6, none⟩ = some (.int .i64 g.spread) := by rw [← hV]; simp [putTwins, go_sem, c56]
    have r57 : V.cell? ⟨p5, 7, none⟩ = some (.bool g.stamp) := by rw [← hV]; simp [putTwins, go_sem, c57]
    have o0 : V.cell? ⟨w.heap.size, 0, none⟩ = some (.slice q0 ts.length cp0) := by rw [← hV]; simp [putTwins, go_sem, o0W]
    have o10 : V.cell? ⟨w.heap.size + 1, 0, none⟩ = some (.slice q1 g.loads.length cp1) := by rw [← hV]; simp [putTwins, go_sem, o10W]
    have o11 : V.cell? ⟨w.heap.size + 1, 1, none⟩ = some (.int .i64 g.added) := by rw [← hV]; simp [putTwins, go_sem, o11W]
    have o12 : V.cell? ⟨w.heap.size + 1, 2, none⟩ = some (.int .i64 g.base) := by rw [← hV]; simp [putTwins, go_sem, o12W]
    have o13 : V.cell? ⟨w.heap.size + 1, 3, none⟩ = some (.int .i64 g.jitter) := by rw [← hV]; simp [putTwins, go_sem, o13W]
    have o14 : V.cell? ⟨w.heap.size + 1, 4, none⟩ = some (.slice q2 g.runners.length cp2) := by rw [← hV]; simp [putTwins, go_sem, o14W]
    have o15 : V.cell? ⟨w.heap.size + 1, 5, none⟩ = some (.slice q3 g.strokes.length cp3) := by rw [← hV]; simp [putTwins, go_sem, o15W]
    have o16 : V.cell? ⟨w.heap.size + 1, 6, none⟩ = some (.int .i64 g.spread) := by rw [← hV]; simp [putTwins, go_sem, o16W]
    have o17 : V.cell? ⟨w.heap.size + 1, 7, none⟩ = some (.bool g.stamp) := by rw [← hV]; simp [putTwins, go_sem, o17W]
    have m0 := Lays.of_cell o0
    have m1 := Lays.of_cell o10
    have m4 := Lays.of_cell r4
    have m5 := Lays.of_cell r50
    rw [hV] at hbA2 hgA2 hEV
    have HBA := Lib.hid hbA2
    clear hbA2
    have HGB := Lib.hid hgA2
    clear hgA2
    have HTS := Lib.hid hts
    clear hts
    have HNE := Lib.hid hne
    clear hne
    clear hbA hbT hbS hgA hT1 hT2 hT3 hfr5 hp4 hp5 hΦ
    go_wp2_with fail
    change Calls Tryz.prog 7 _ (putTwins W p4 p5 g (.slice qb ts'.length cb) (.slice ql g.loads.length cl) (.slice qr g.runners.length cr) (.slice qs g.strokes.length cs)) _
    rw [hV]
    clear c4 c50 c51 c52 c53 c54 c55 c56 c57 hf50 hf51 hf52 hf53 hf54 hf55 hf56 hf57 hfr4 hl4 hl5 hV hwW3 hE hb4 hb5 o0W o10W o11W o12W o13W o14W o15W o16W o17W
    clear W
    go_wp2_with (first
      | (go_at_call 7; refine (scale_Totals_any ts' _ g _ _ _ _ (HBA.out.mono (by repeat' (first | with_reducible exact World.Exts.refl _ | with_reducible refine World.Exts.alloc ?_ _ | with_reducible refine World.Exts.drew ?_ | with_reducible refine World.Exts.drewN ?_ _ | with_reducible refine World.Exts.ext ?_ _ | with_reducible refine World.Exts.setCell ?_ ?_ _ | (simp; done) | exact World.size_ext_le _ _ | (simp; omega)))) (HGB.out.mono (by repeat' (first | with_reducible exact World.Exts.refl _ | with_reducible refine World.Exts.alloc ?_ _ | with_reducible refine World.Exts.drew ?_ | with_reducible refine World.Exts.drewN ?_ _ | with_reducible refine World.Exts.ext ?_ _ | with_reducible refine World.Exts.setCell ?_ ?_ _ | (simp; done) | exact World.size_ext_le _ _ | (simp; omega))))).mono ?_; rw [HTS.out]; rintro e w' ⟨v2, rfl, hv2, X3, rfl⟩; obtain ⟨qt, ct, rfl⟩ := hv2.len; have HV2 := Lib.hid hv2; clear hv2)
      | (go_at_call 8; refine (r04_Totals_any ts _ g _ _ _ _ (HB.out.mono (by repeat' (first | exact hEV | with_reducible exact World.Exts.refl _ | with_reducible refine World.Exts.alloc ?_ _ | with_reducible refine World.Exts.drew ?_ | with_reducible refine World.Exts.drewN ?_ _ | with_reducible refine World.Exts.ext ?_ _ | with_reducible refine World.Exts.setCell ?_ ?_ _ | (simp; done) | exact World.size_ext_le _ _ | (simp; omega)))) (HGA.out.mono (by repeat' (first | exact hEV | with_reducible exact World.Exts.refl _ | with_reducible refine World.Exts.alloc ?_ _ | with_reducible refine World.Exts.drew ?_ | with_reducible refine World.Exts.drewN ?_ _ | with_reducible refine World.Exts.ext ?_ _ | with_reducible refine World.Exts.setCell ?_ ?_ _ | (simp; done) | exact World.size_ext_le _ _ | (simp; omega))))).mono ?_; rintro e w' ⟨v3, rfl, hv3, X4, rfl⟩; obtain ⟨qu, cu, rfl⟩ := hv3.len; have HV3 := Lib.hid hv3; clear hv3)
      | (go_at_call 9; refine (scale_Truth_any ts' _ g _ _ _ total _ (HBA.out.mono (by repeat' (first | with_reducible exact World.Exts.refl _ | with_reducible refine World.Exts.alloc ?_ _ | with_reducible refine World.Exts.drew ?_ | with_reducible refine World.Exts.drewN ?_ _ | with_reducible refine World.Exts.ext ?_ _ | with_reducible refine World.Exts.setCell ?_ ?_ _ | (simp; done) | exact World.size_ext_le _ _ | (simp; omega)))) (HGB.out.mono (by repeat' (first | with_reducible exact World.Exts.refl _ | with_reducible refine World.Exts.alloc ?_ _ | with_reducible refine World.Exts.drew ?_ | with_reducible refine World.Exts.drewN ?_ _ | with_reducible refine World.Exts.ext ?_ _ | with_reducible refine World.Exts.setCell ?_ ?_ _ | (simp; done) | exact World.size_ext_le _ _ | (simp; omega))))).mono ?_; rw [HTS.out]; rintro e w' ⟨va, vb, t1, t2, er, rfl, htr, hva, hvb, X5, rfl⟩; obtain ⟨qa, ca, rfl⟩ := hva.len; obtain ⟨qe, ce, rfl⟩ := hvb.len; have HTR := Lib.hid htr; have HVA := Lib.hid hva; have HVB := Lib.hid hvb; clear htr hva hvb)
      | (go_at_call 10; refine (r04_Truth_any ts _ g _ _ _ total _ (HB.out.mono (by repeat' (first | exact hEV | with_reducible exact World.Exts.refl _ | with_reducible refine World.Exts.alloc ?_ _ | with_reducible refine World.Exts.drew ?_ | with_reducible refine World.Exts.drewN ?_ _ | with_reducible refine World.Exts.ext ?_ _ | with_reducible refine World.Exts.setCell ?_ ?_ _ | (simp; done) | exact World.size_ext_le _ _ | (simp; omega)))) (HGA.out.mono (by repeat' (first | exact hEV | with_reducible exact World.Exts.refl _ | with_reducible refine World.Exts.alloc ?_ _ | with_reducible refine World.Exts.drew ?_ | with_reducible refine World.Exts.drewN ?_ _ | with_reducible refine World.Exts.ext ?_ _ | with_reducible refine World.Exts.setCell ?_ ?_ _ | (simp; done) | exact World.size_ext_le _ _ | (simp; omega))))).mono ?_; rintro e w' ⟨vc, vd, t3, t4, er2, rfl, htr, hvc, hvd, X6, rfl⟩; rw [HTR.out] at htr; cases htr; obtain ⟨qc, cc, rfl⟩ := hvc.len; obtain ⟨qd, cd, rfl⟩ := hvd.len; have HVC := Lib.hid hvc; have HVD := Lib.hid hvd; clear hvc hvd)
      | (go_at_call 11; refine (scale_Warm_any g _ _ _ _ (HGB.out.mono (by repeat' (first | with_reducible exact World.Exts.refl _ | with_reducible refine World.Exts.alloc ?_ _ | with_reducible refine World.Exts.drew ?_ | with_reducible refine World.Exts.drewN ?_ _ | with_reducible refine World.Exts.ext ?_ _ | with_reducible refine World.Exts.setCell ?_ ?_ _ | (simp; done) | exact World.size_ext_le _ _ | (simp; omega))))).mono ?_; rintro e w' ⟨v4, rfl, hv4, X7, rfl⟩; obtain ⟨qw, cw, rfl⟩ := hv4.len; have HV4 := Lib.hid hv4; clear hv4)
      | (go_at_call 12; refine (r04_Warm_any g _ _ _ _ (HGA.out.mono (by repeat' (first | exact hEV | with_reducible exact World.Exts.refl _ | with_reducible refine World.Exts.alloc ?_ _ | with_reducible refine World.Exts.drew ?_ | with_reducible refine World.Exts.drewN ?_ _ | with_reducible refine World.Exts.ext ?_ _ | with_reducible refine World.Exts.setCell ?_ ?_ _ | (simp; done) | exact World.size_ext_le _ _ | (simp; omega))))).mono ?_; rintro e w' ⟨v5, rfl, hv5, X8, rfl⟩; obtain ⟨qx, cx, rfl⟩ := hv5.len; have HV5 := Lib.hid hv5; clear hv5)
      | (go_at_call 13; refine (scale_Hard_any g _ _ _ _ (HGB.out.mono (by repeat' (first | with_reducible exact World.Exts.refl _ | with_reducible refine World.Exts.alloc ?_ _ | with_reducible refine World.Exts.drew ?_ | with_reducible refine World.Exts.drewN ?_ _ | with_reducible refine World.Exts.ext ?_ _ | with_reducible refine World.Exts.setCell ?_ ?_ _ | (simp; done) | exact World.size_ext_le _ _ | (simp; omega))))).mono ?_; rintro e w' ⟨rfl, X9, rfl⟩)
      | (go_at_call 14; refine (r04_Hard_any g _ _ _ _ (HGA.out.mono (by repeat' (first | exact hEV | with_reducible exact World.Exts.refl _ | with_reducible refine World.Exts.alloc ?_ _ | with_reducible refine World.Exts.drew ?_ | with_reducible refine World.Exts.drewN ?_ _ | with_reducible refine World.Exts.ext ?_ _ | with_reducible refine World.Exts.setCell ?_ ?_ _ | (simp; done) | exact World.size_ext_le _ _ | (simp; omega))))).mono ?_; rintro e w' ⟨rfl, X10, rfl⟩)
      | (go_at_call 15; ((with_reducible refine (r04_SameSpans_any (totalsR (ts.map Prod.fst) g).1 _ _ _ (HV2.out.mono (by repeat' (first | with_reducible exact World.Exts.refl _ | with_reducible refine World.Exts.alloc ?_ _ | with_reducible refine World.Exts.drew ?_ | with_reducible refine World.Exts.drewN ?_ _ | with_reducible refine World.Exts.ext ?_ _ | with_reducible refine World.Exts.setCell ?_ ?_ _ | (simp; done) | exact World.size_ext_le _ _ | (simp; omega)))) (HV3.out.mono (by repeat' (first | with_reducible exact World.Exts.refl _ | with_reducible refine World.Exts.alloc ?_ _ | with_reducible refine World.Exts.drew ?_ | with_reducible refine World.Exts.drewN ?_ _ | with_reducible refine World.Exts.ext ?_ _ | with_reducible refine World.Exts.setCell ?_ ?_ _ | (simp; done) | exact World.size_ext_le _ _ | (simp; omega))))).mono ?_); rintro e w' ⟨rfl, X11, rfl⟩))
      | (go_at_call 15; ((with_reducible refine (r04_SameSpans_any (warm g).1 _ _ _ (HV4.out.mono (by repeat' (first | with_reducible exact World.Exts.refl _ | with_reducible refine World.Exts.alloc ?_ _ | with_reducible refine World.Exts.drew ?_ | with_reducible refine World.Exts.drewN ?_ _ | with_reducible refine World.Exts.ext ?_ _ | with_reducible refine World.Exts.setCell ?_ ?_ _ | (simp; done) | exact World.size_ext_le _ _ | (simp; omega)))) (HV5.out.mono (by repeat' (first | with_reducible exact World.Exts.refl _ | with_reducible refine World.Exts.alloc ?_ _ | with_reducible refine World.Exts.drew ?_ | with_reducible refine World.Exts.drewN ?_ _ | with_reducible refine World.Exts.ext ?_ _ | with_reducible refine World.Exts.setCell ?_ ?_ _ | (simp; done) | exact World.size_ext_le _ _ | (simp; omega))))).mono ?_); rintro e w' ⟨rfl, X12, rfl⟩))
      | (go_at_call 16; refine (r04_SameWeighed_any (t1.map fun q => (q.gain, q.off)) t2 _ _ _ _ _ (row_pair_of (HVA.out.mono (by repeat' (first | with_reducible exact World.Exts.refl _ | with_reducible refine World.Exts.alloc ?_ _ | with_reducible refine World.Exts.drew ?_ | with_reducible refine World.Exts.drewN ?_ _ | with_reducible refine World.Exts.ext ?_ _ | with_reducible refine World.Exts.setCell ?_ ?_ _ | (simp; done) | exact World.size_ext_le _ _ | (simp; omega))))) (row_pair_of (HVC.out.mono (by repeat' (first | with_reducible exact World.Exts.refl _ | with_reducible refine World.Exts.alloc ?_ _ | with_reducible refine World.Exts.drew ?_ | with_reducible refine World.Exts.drewN ?_ _ | with_reducible refine World.Exts.ext ?_ _ | with_reducible refine World.Exts.setCell ?_ ?_ _ | (simp; done) | exact World.size_ext_le _ _ | (simp; omega))))) (HVB.out.mono (by repeat' (first | with_reducible exact World.Exts.refl _ | with_reducible refine World.Exts.alloc ?_ _ | with_reducible refine World.Exts.drew ?_ | with_reducible refine World.Exts.drewN ?_ _ | with_reducible refine World.Exts.ext ?_ _ | with_reducible refine World.Exts.setCell ?_ ?_ _ | (simp; done) | exact World.size_ext_le _ _ | (simp; omega)))) (HVD.out.mono (by repeat' (first | with_reducible exact World.Exts.refl _ | with_reducible refine World.Exts.alloc ?_ _ | with_reducible refine World.Exts.drew ?_ | with_reducible refine World.Exts.drewN ?_ _ | with_reducible refine World.Exts.ext ?_ _ | with_reducible refine World.Exts.setCell ?_ ?_ _ | (simp; done) | exact World.size_ext_le _ _ | (simp; omega))))).mono ?_; rintro e w' ⟨rfl, X13, rfl⟩)
      | (go_at_call 17; refine (r04_SameBay_any ts' ts _ _ _ (HBA.out.mono (by repeat' (first | with_reducible exact World.Exts.refl _ | with_reducible refine World.Exts.alloc ?_ _ | with_reducible refine World.Exts.drew ?_ | with_reducible refine World.Exts.drewN ?_ _ | with_reducible refine World.Exts.ext ?_ _ | with_reducible refine World.Exts.setCell ?_ ?_ _ | (simp; done) | exact World.size_ext_le _ _ | (simp; omega)))) (HB.out.mono (by repeat' (first | exact hEV | with_reducible exact World.Exts.refl _ | with_reducible refine World.Exts.alloc ?_ _ | with_reducible refine World.Exts.drew ?_ | with_reducible refine World.Exts.drewN ?_ _ | with_reducible refine World.Exts.ext ?_ _ | with_reducible refine World.Exts.setCell ?_ ?_ _ | (simp; done) | exact World.size_ext_le _ _ | (simp; omega)))) HTS.out).mono ?_; rintro e w' ⟨rfl, X14, rfl⟩)
      | (go_at_call 18; refine (r04_SameGear_any g _ _ _ _ _ _ _ (HGB.out.mono (by repeat' (first | with_reducible exact World.Exts.refl _ | with_reducible refine World.Exts.alloc ?_ _ | with_reducible refine World.Exts.drew ?_ | with_reducible refine World.Exts.drewN ?_ _ | with_reducible refine World.Exts.ext ?_ _ | with_reducible refine World.Exts.setCell ?_ ?_ _ | (simp; done) | exact World.size_ext_le _ _ | (simp; omega)))) (HGA.out.mono (by repeat' (first | exact hEV | with_reducible exact World.Exts.refl _ | with_reducible refine World.Exts.alloc ?_ _ | with_reducible refine World.Exts.drew ?_ | with_reducible refine World.Exts.drewN ?_ _ | with_reducible refine World.Exts.ext ?_ _ | with_reducible refine World.Exts.setCell ?_ ?_ _ | (simp; done) | exact World.size_ext_le _ _ | (simp; omega))))).mono ?_; rintro e w' ⟨rfl, X15, rfl⟩))
    go_ret
    exact ⟨rfl, (by repeat' (first | exact hEV | with_reducible exact World.Exts.refl _ | with_reducible refine World.Exts.alloc ?_ _ | with_reducible refine World.Exts.drew ?_ | with_reducible refine World.Exts.drewN ?_ _ | with_reducible refine World.Exts.ext ?_ _ | with_reducible refine World.Exts.setCell ?_ ?_ _ | (simp; done) | exact World.size_ext_le _ _ | (simp; omega)))⟩
  case mono => exact fun c v W W' h hE => h.mono hE
end Go.Proofs.YtmkhjcgaidmehaaGreat
