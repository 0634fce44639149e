/-
  The law SheetKept: its walk.
-/
import Derived.Test.YtilmniopollbiaaGreatDoorIuQ
import Derived.Test.YtilmniopollbiaaGreatDoorIuQ
import Derived.Test.YtilmniopollbiaaGreatDoorIuQ
import Derived.Test.YtilmniopollbiaaGreatDoorIyP
import Derived.Test.YtilmniopollbiaaGreatDoorIyP
import Derived.Test.YtilmniopollbiaaGreatDoorIyP
import Derived.Test.YtilmniopollbiaaGreatDoorRf
import Derived.Test.YtilmniopollbiaaGreatDoorScDT
namespace Go.Proofs.YtilmniopollbiaaGreatDoor
open Go.RowKit Kr
set_option linter.unusedSimpArgs false
set_option linter.unusedVariables false

/-- What the region of the twins leaves: a cover, a plan, a bay, gear, and three boxes. -/
def TwinFour (c : Kr.Cover) (ps : List (List Int × Value)) (ts : List (Kr.Scale × Value)) (g : Gear) (b k : Nat) (W : World) (v : Value) : Prop :=
  (k = 1 → ∃ u : CoverV, v = .agg #[u.t, u.b, u.h, .int .i64 c.wear.lo, .int .i64 c.wear.hi, .int .i64 c.layer.lo, .int .i64 c.layer.hi, .int .i64 c.rate, .int .i64 c.limit, .int .i64 c.base] ∧ CoverAt W c u ∧ RowT 196 W u.t ∧ RowT 113 W u.b ∧ RowT 115 W u.h) ∧
  (k = 3 → ∃ ps', ListsAt W v ps' ∧ ps'.map Prod.fst = ps.map Prod.fst ∧ RowT 36 W v ∧ ∀ x ∈ ps', RowT 3 W x.2) ∧
  (k = 5 → ∃ v' ts', v = .agg #[v'] ∧ BayAt W v' ts' ∧ ts'.map Prod.fst = ts.map Prod.fst ∧ (∀ x ∈ ts', RowT 117 W x.2) ∧ OffT 94 0 W v' ts') ∧
  (k = 7 → ∃ l r s, v = .agg #[l, .int .i64 g.added, .int .i64 g.base, .int .i64 g.jitter, r, s, .int .i64 g.spread, .bool g.stamp] ∧ GearAt W (g, l, r, s) ∧ RowT 119 W l ∧ RowT 3 W r ∧ RowT 3 W s) ∧
  (k = 8 → ∃ pp, v = .pointer (some ⟨pp, 0, none⟩) ∧ b ≤ pp ∧ LaysAs W pp (.cells [.slice none 0 0, .slice none 0 0, .slice none 0 0, .int .i64 0, .int .i64 0, .int .i64 0, .int .i64 0, .int .i64 0, .int .i64 0, .int .i64 0].toArray 30 (0, 0))) ∧
  (k = 9 → ∃ pp, v = .pointer (some ⟨pp, 0, none⟩) ∧ b ≤ pp ∧ LaysAs W pp (.cells [.slice none 0 0].toArray 34 (0, 0))) ∧
  (k = 10 → ∃ pp, v = .pointer (some ⟨pp, 0, none⟩) ∧ b ≤ pp ∧ LaysAs W pp (.cells [.slice none 0 0, .int .i64 0, .int .i64 0, .int .i64 0, .slice none 0 0, .slice none 0 0, .int .i64 0, .bool false].toArray 38 (0, 0)))
theorem TwinFour.mono {c : Kr.Cover} {ps : List (List Int × Value)} {ts : List (Kr.Scale × Value)} {g : Gear} {b k : Nat} {W W' : World} {v : Value} (h : TwinFour c ps ts g b k W v) (hE : W.Exts W') : TwinFour c ps ts g b k W' v :=
  ⟨fun e => by obtain ⟨u, h1, h2, h3, h4, h5⟩ := h.1 e; exact ⟨u, h1, h2.mono hE, h3.exts hE, h4.exts hE, h5.exts hE⟩,
   fun e => by obtain ⟨p, h1, h2, h3, h4⟩ := h.2.1 e; exact ⟨p, h1.mono hE, h2, h3.exts hE, fun x hx => (h4 x hx).exts hE⟩,
   fun e => by obtain ⟨v', ts', h1, h2, h3, h4, h5⟩ := h.2.2.1 e; exact ⟨v', ts', h1, h2.mono hE, h3, fun x hx => (h4 x hx).exts hE, h5.exts hE⟩,
   fun e => by obtain ⟨l, r, s, h1, h2, h3, h4, h5⟩ := h.2.2.2.1 e; exact ⟨l, r, s, h1, h2.mono hE, h3.exts hE, h4.exts hE, h5.exts hE⟩,
   fun e => by obtain ⟨pp, h1, h2, h3⟩ := h.2.2.2.2.1 e; exact ⟨pp, h1, h2, h3.exts hE⟩,
   fun e => by obtain ⟨pp, h1, h2, h3⟩ := h.2.2.2.2.2.1 e; exact ⟨pp, h1, h2, h3.exts hE⟩,
   fun e => by obtain ⟨pp, h1, h2, h3⟩ := h.2.2.2.2.2.2 e; exact ⟨pp, h1, h2, h3.exts hE⟩⟩
/-- The stores into the three boxes. -/
def putFour (W : World) (p8 p9 p10 : Nat) (c : Kr.Cover) (u : CoverV) (vb : Value) (g : Gear) (l r s : Value) : World :=
  puts (puts (puts W p8 0 (#[u.t, u.b, u.h, .int .i64 c.wear.lo, .int .i64 c.wear.hi, .int .i64 c.layer.lo, .int .i64 c.layer.hi, .int .i64 c.rate, .int .i64 c.limit, .int .i64 c.base] : Array Value).toList) p9 0 [vb]) p10 0 (#[l, .int .i64 g.added, .int .i64 g.base, .int .i64 g.jitter, r, s, .int .i64 g.spread, .bool g.stamp] : Array Value).toList
theorem putFour_off {α : Type} {enc : α → List Value} {k p8 p9 p10 : Nat} {W : World} {v : Value} {xs : List α} (h : RowOff enc k W [p8, p9, p10] v xs) (c : Kr.Cover) (u : CoverV) (vb : Value) (g : Gear) (l r s : Value) : IsRow enc k (putFour W p8 p9 p10 c u vb g l r s) v xs :=
  (puts_off (by simp) _ _ (puts_off (by simp) _ _ (puts_off (by simp) _ _ h))).row

theorem putFour_lays {p8 p9 p10 b : Nat} {W : World} {ob : Obj} (c : Kr.Cover) (u : CoverV) (vb : Value) (g : Gear) (l r s : Value) (h : LaysAs W b ob) (h8 : b ≠ p8) (h9 : b ≠ p9) (h0 : b ≠ p10) : LaysAs (putFour W p8 p9 p10 c u vb g l r s) b ob :=
  puts_other h0 _ _ (puts_other h9 _ _ (puts_other h8 _ _ h))
set_option maxRecDepth 4000 in
set_option maxHeartbeats 8000000 in
theorem l11_SheetKept_any (c : Kr.Cover) (v : CoverV) (ps : List (List Int × Value)) (pv : Value) (ts : List (Kr.Scale × Value)) (bv : Value) (g : Gear) (lv rv sv : Value) (n : Norm) (w : World) (h : CoverAt w c v) (hsd : ∀ s ∈ c.track, 0 ≤ s.side ∧ s.side ≤ 255) (hp : ListsAt w pv ps)
    (hrow : BayAt w bv ts) (hl : IsRow (fun t : Kr.Load => [.int .i64 t.scale, .int .i64 t.shown]) 2 w lv g.loads) (hr : IsRow (fun x : Int => [.int .i64 x]) 1 w rv g.runners) (hs : IsRow (fun x : Int => [.int .i64 x]) 1 w sv g.strokes) (hwf : ∀ l ∈ g.loads, (Lit.int .i64 l.scale).wf = true) (hcd : CondsAt w) (hld : LimsAt w) :
    Calls Tryz.prog 3 #[.agg #[v.t, v.b, v.h, .int .i64 c.wear.lo, .int .i64 c.wear.hi, .int .i64 c.layer.lo, .int .i64 c.layer.hi, .int .i64 c.rate, .int .i64 c.limit, .int .i64 c.base], pv, .agg #[bv], .agg #[lv, .int .i64 g.added, .int .i64 g.base, .int .i64 g.jitter, rv, sv, .int .i64 g.spread, .bool g.stamp], .agg #[.int .i64 n.total.lo, .int .i64 n.total.hi, .int .i64 n.added, .int .i64 n.warm, .int .i64 n.hard.lo, .int .i64 n.hard.hi, .bool n.stamp]] w fun e w' => e = .returned (.bool true) ∧ w.Exts w' := by
  obtain ⟨vt, vb, vh⟩ := v
  obtain ⟨qt, ct, hqt⟩ := h.tr.len
  obtain ⟨qb, cb, hqb⟩ := h.bd.len
  obtain ⟨qh, ch, hqh⟩ := h.hr.len
  dsimp only at hqt hqb hqh
  subst hqt hqb hqh
  obtain ⟨qp, cp, rfl⟩ := hp.row.len
  obtain ⟨q0, cp0, rfl⟩ := hrow.row.len
  obtain ⟨q1, cp1, rfl⟩ := hl.len
  obtain ⟨q2, cp2, rfl⟩ := hr.len
  obtain ⟨q3, cp3, rfl⟩ := hs.len
  have HC := Lib.hid h
  clear h
  have HP := Lib.hid hp
  clear hp
  have HSD := Lib.hid hsd
  clear hsd
  have HB := Lib.hid hrow
  clear hrow
  have HL := Lib.hid hl
  clear hl
  have HR := Lib.hid hr
  clear hr
  have HS := Lib.hid hs
  clear hs
  have HCD := Lib.hid hcd
  clear hcd
  have HLD := Lib.hid hld
  clear hld
  cases hgc : greatC c ps
  case true =>
    have HG := Lib.hid hgc
    clear hgc
    go_enter Tryz.func3, Tryz.ntmps3
    go_wp2_with (go_at_call 7; refine (r02_Great_any c _ ps _ _ (HC.out.mono exq) (HP.out.mono exq)).mono ?_; rintro e w' ⟨rfl, X2, rfl⟩; rw [HG.out])
    go_ret
    exact ⟨rfl, exq⟩
  obtain ⟨t1, t2, t3, t4, t5⟩ := greatC_false hgc
  cases hg : great ts g
  case true =>
    have HGC := Lib.hid hgc
    clear hgc
    have HG := Lib.hid hg
    clear hg
    clear t5
    go_enter Tryz.func3, Tryz.ntmps3
    go_wp2_with (first
      | (go_at_call 7; refine (r02_Great_any c _ ps _ _ (HC.out.mono exq) (HP.out.mono exq)).mono ?_; rintro e w' ⟨rfl, X2, rfl⟩; rw [HGC.out])
      | (go_at_call 8; refine (r04_Great_any ts _ g _ _ _ _ (HB.out.mono exq) (HL.out.mono exq) (HR.out.mono exq) (HS.out.mono exq)).mono ?_; rintro e w' ⟨rfl, X3, rfl⟩; rw [HG.out]))
    go_ret
    exact ⟨rfl, exq⟩
  have hgear : GearAt w (g, .slice q1 g.loads.length cp1, .slice q2 g.runners.length cp2, .slice q3 g.strokes.length cp3) :=
    ⟨HL.out, HR.out, HS.out, by simp [great] at hg; dsimp only; omega, hwf⟩
  have hbl : ts.length ≤ 1000 ∧ (∀ x ∈ ts, x.1.trials.length ≤ 1000) ∧ g.loads.length ≤ 1000 ∧ g.runners.length ≤ 1000 ∧ g.strokes.length ≤ 1000 := by
    simp [great] at hg
    obtain ⟨g1, g2⟩ := hg
    refine ⟨by omega, fun x hx => ?_, by omega, by omega, by omega⟩
    have := g2 x.1 x.2 hx
    omega
  obtain ⟨b1, b2, b3, b4, b5⟩ := hbl
  have hpf : ∀ x ∈ ps, x.1.length ≤ 1000 := fun x hx => by have := t5 x hx; omega
  have HGC := Lib.hid hgc
  clear hgc
  have HG := Lib.hid hg
  clear hg
  have HGA := Lib.hid hgear
  clear hgear
  have HB2 := Lib.hid b2
  clear b2
  have HPF := Lib.hid hpf
  clear hpf
  clear hwf t5
  go_enter Tryz.func3, Tryz.ntmps3
  go_wp2_with (first
    | (go_at_call 7; refine (r02_Great_any c _ ps _ _ (HC.out.mono exq) (HP.out.mono exq)).mono ?_; rintro e w' ⟨rfl, X2, rfl⟩; rw [HGC.out])
    | (go_at_call 8; refine (r04_Great_any ts _ g _ _ _ _ (HB.out.mono exq) (HL.out.mono exq) (HR.out.mono exq) (HS.out.mono exq)).mono ?_; rintro e w' ⟨rfl, X3, rfl⟩; rw [HG.out]))
  refine wp_region_callsK 11 (fun i => i == 1 || i == 3 || i == 5 || i == 7 || i == 8 || i == 9 || i == 10) (fun k v W => TwinFour c ps ts g (w.heap.size + 4) k W v) (fun _ => none) (by kernel_rfl) (fun ν => by kernel_rfl) (by kernel_rfl) (by kernel_rfl) (by kernel_rfl) (by kernel_rfl) (by kernel_rfl) ?mono ?known ?_
  rotate_left 2
  apply Exists.intro
  refine ⟨fun ν hkn => ?want, fun ν hkn L hL => ?walk, fun c oc hc hU ν hkn W hE hΦ => ?calls, fun ν hkn W hE hΦ => ?tail⟩
  case mono => exact fun c v W W' h hE => h.mono hE
  case known => exact fun c v W u h hk => by cases hk
  case want =>
    intro i oi hi hU
    simp at hU
    rcases hU with (((((rfl | rfl) | rfl) | rfl) | rfl) | rfl) | rfl
    all_goals
      simp only [List.getElem?_cons_succ, List.getElem?_cons_zero, Option.some.injEq] at hi
      subst hi
      rfl
  case walk =>
    repeat (first
      | (refine modTo_free rfl ?_; go_big_quiet_step (fail))
      | (refine modTo_call rfl rfl ?_; go_big_quiet_step (fail)))
    refine modTo_end ?_
    exact hL
  case calls =>
    simp at hU
    have hwW : w.Exts W := World.Exts.trans exq hE
    have hsz2 : w.heap.size + 4 ≤ W.heap.size := by
      have h1 := hE.size
      have h2 := World.size_ext_le _ X2
      have h3 := World.size_ext_le _ X3
      simp at h2 h3
      omega
    rcases hU with (((((rfl | rfl) | rfl) | rfl) | rfl) | rfl) | rfl
    · simp only [List.getElem?_cons_succ, List.getElem?_cons_zero, Option.some.injEq] at hc
      subst hc
      refine Oper.gives_fn rfl rfl rfl (enters_of Tryz.func9 (by kernel_rfl) rfl) ?_ rfl
      refine (r02_Twin_own c _ W (HC.out.mono hwW) (by omega) (by omega) (by omega)).mono ?_
      rintro e W' ⟨u, rfl, h1, h2, h3, h4, h5⟩
      exact ⟨_, rfl, h5, fun _ => ⟨u, rfl, h1, h2, h3, h4⟩, fun e => (by cases e), fun e => (by cases e), fun e => (by cases e), fun e => (by cases e), fun e => (by cases e), fun e => (by cases e)⟩
    · simp only [List.getElem?_cons_succ, List.getElem?_cons_zero, Option.some.injEq] at hc
      subst hc
      refine Oper.gives_fn rfl rfl rfl (enters_of Tryz.func10 (by kernel_rfl) rfl) ?_ rfl
      refine (r02_TwinPlan_own ps _ W (HP.out.mono hwW) (by omega) HPF.out).mono ?_
      rintro e W' ⟨v', ps', rfl, h1, h2, h3, h4, h5⟩
      exact ⟨_, rfl, h5, fun e => (by cases e), fun _ => ⟨ps', h1, h2, h3, h4⟩, fun e => (by cases e), fun e => (by cases e), fun e => (by cases e), fun e => (by cases e), fun e => (by cases e)⟩
    · simp only [List.getElem?_cons_succ, List.getElem?_cons_zero, Option.some.injEq] at hc
      subst hc
      refine Oper.gives_fn rfl rfl rfl (enters_of Tryz.func11 (by kernel_rfl) rfl) ?_ rfl
      refine (r04_TwinBay_own ts _ W (HB.out.mono hwW) b1 HB2.out).mono ?_
      rintro e W' ⟨v', ts', rfl, h1, h2, h3, h4, h5⟩
      exact ⟨_, rfl, h3, fun e => (by cases e), fun e => (by cases e), fun _ => ⟨v', ts', rfl, h1, h2, h4, h5⟩, fun e => (by cases e), fun e => (by cases e), fun e => (by cases e), fun e => (by cases e)⟩
    · simp only [List.getElem?_cons_succ, List.getElem?_cons_zero, Option.some.injEq] at hc
      subst hc
      refine Oper.gives_fn rfl rfl rfl (enters_of Tryz.func12 (by kernel_rfl) rfl) ?_ rfl
      refine (r04_TwinGear_own g _ _ _ W (HGA.out.mono hwW) b3 b4 b5).mono ?_
      rintro e W' ⟨l', r', s', rfl, h1, h2, h3, h4, h5⟩
      exact ⟨_, rfl, h2, fun e => (by cases e), fun e => (by cases e), fun e => (by cases e), fun _ => ⟨l', r', s', rfl, h1, h3, h4, h5⟩, fun e => (by cases e), fun e => (by cases e), fun e => (by cases e)⟩
    · simp only [List.getElem?_cons_succ, List.getElem?_cons_zero, Option.some.injEq] at hc
      subst hc
      exact .inr ⟨.pointer (some ⟨W.heap.size, 0, none⟩), W.alloc (.cells [.slice none 0 0, .slice none 0 0, .slice none 0 0, .int .i64 0, .int .i64 0, .int .i64 0, .int .i64 0, .int .i64 0, .int .i64 0, .int .i64 0].toArray 30), by kernel_rfl, exq, fun e => (by cases e), fun e => (by cases e), fun e => (by cases e), fun e => (by cases e), fun _ => ⟨_, rfl, hsz2, laysAs_size W _ rfl⟩, fun e => (by cases e), fun e => (by cases e)⟩
    · simp only [List.getElem?_cons_succ, List.getElem?_cons_zero, Option.some.injEq] at hc
      subst hc
      exact .inr ⟨.pointer (some ⟨W.heap.size, 0, none⟩), W.alloc (.cells #[.slice none 0 0] 34), by kernel_rfl, exq, fun e => (by cases e), fun e => (by cases e), fun e => (by cases e), fun e => (by cases e), fun e => (by cases e), fun _ => ⟨_, rfl, hsz2, laysAs_size W _ rfl⟩, fun e => (by cases e)⟩
    · simp only [List.getElem?_cons_succ, List.getElem?_cons_zero, Option.some.injEq] at hc
      subst hc
      exact .inr ⟨.pointer (some ⟨W.heap.size, 0, none⟩), W.alloc (.cells [.slice none 0 0, .int .i64 0, .int .i64 0, .int .i64 0, .slice none 0 0, .slice none 0 0, .int .i64 0, .bool false].toArray 38), by kernel_rfl, exq, fun e => (by cases e), fun e => (by cases e), fun e => (by cases e), fun e => (by cases e), fun e => (by cases e), fun e => (by cases e), fun _ => ⟨_, rfl, hsz2, laysAs_size W _ rfl⟩⟩
  case tail =>
    obtain ⟨u, hν1, hcA, hcT1, hcT2, hcT3⟩ := (hΦ 1 (by decide) rfl).1 rfl
    obtain ⟨ps', hpA, hps, hpT1, hpT2⟩ := (hΦ 3 (by decide) rfl).2.1 rfl
    obtain ⟨vb, ts', hν5, hbA, hts, hbT, hbS⟩ := (hΦ 5 (by decide) rfl).2.2.1 rfl
    obtain ⟨l', r', s', hν7, hgA, hT1, hT2, hT3⟩ := (hΦ 7 (by decide) rfl).2.2.2.1 rfl
    obtain ⟨p8, hν8, hb8, hp8⟩ := (hΦ 8 (by decide) rfl).2.2.2.2.1 rfl
    obtain ⟨p9, hν9, hb9, hp9⟩ := (hΦ 9 (by decide) rfl).2.2.2.2.2.1 rfl
    obtain ⟨p10, hν10, hb10, hp10⟩ := (hΦ 10 (by decide) rfl).2.2.2.2.2.2 rfl
    have n89 : p8 ≠ p9 := lays_apart hp8 hp9 (by decide)
    have n80 : p8 ≠ p10 := lays_apart hp8 hp10 (by decide)
    have n90 : p9 ≠ p10 := lays_apart hp9 hp10 (by decide)
    have hwW3 : w.Exts W := World.Exts.trans exq hE
    simp only [List.drop_succ_cons, List.drop_zero]
    generalize ν 1 = v1 at hν1 ⊢
    generalize ν 3 = v3 at hpA hpT1 ⊢
    generalize ν 5 = v5 at hν5 ⊢
    generalize ν 7 = v7 at hν7 ⊢
    generalize ν 8 = v8 at hν8 ⊢
    generalize ν 9 = v9 at hν9 ⊢
    generalize ν 10 = v10 at hν10 ⊢
    subst hν1 hν5 hν7 hν8 hν9 hν10
    have hbx : ∀ t : TypeId, 30 ≠ t → 34 ≠ t → 38 ≠ t → ∀ g ∈ [p8, p9, p10], ∃ cs u, LaysAs W g (.cells cs u (0, 0)) ∧ u ≠ t := fun t a1 a2 a3 g hg => by
      simp at hg
      rcases hg with rfl | rfl | rfl
      · exact ⟨_, _, hp8, a1⟩
      · exact ⟨_, _, hp9, a2⟩
      · exact ⟨_, _, hp10, a3⟩
    have hcA2 : CoverAt (putFour W p8 p9 p10 c u vb g l' r' s') c u := ⟨putFour_off (RowT.boxes hcA.tr hcT1 (hbx _ (by decide) (by decide) (by decide))) c u vb g l' r' s', putFour_off (RowT.boxes hcA.bd hcT2 (hbx _ (by decide) (by decide) (by decide))) c u vb g l' r' s', putFour_off (RowT.boxes hcA.hr hcT3 (hbx _ (by decide) (by decide) (by decide))) c u vb g l' r' s'⟩
    have hpA2 : ListsAt (putFour W p8 p9 p10 c u vb g l' r' s') v3 ps' := ⟨putFour_off (RowT.boxes hpA.row hpT1 (hbx _ (by decide) (by decide) (by decide))) c u vb g l' r' s', fun x hx => putFour_off (RowT.boxes (hpA.mem x hx) (hpT2 x hx) (hbx _ (by decide) (by decide) (by decide))) c u vb g l' r' s'⟩
    have hbA2 : BayAt (putFour W p8 p9 p10 c u vb g l' r' s') vb ts' := ⟨putFour_off (OffT.boxes hbA.row hbS (hbx _ (by decide) (by decide) (by decide))) c u vb g l' r' s', fun x hx => putFour_off (RowT.boxes (hbA.tr x hx) (hbT x hx) (hbx _ (by decide) (by decide) (by decide))) c u vb g l' r' s'⟩
    have hgA2 : GearAt (putFour W p8 p9 p10 c u vb g l' r' s') (g, l', r', s') := ⟨putFour_off (RowT.boxes hgA.l hT1 (hbx _ (by decide) (by decide) (by decide))) c u vb g l' r' s', putFour_off (RowT.boxes hgA.r hT2 (hbx _ (by decide) (by decide) (by decide))) c u vb g l' r' s', putFour_off (RowT.boxes hgA.s hT3 (hbx _ (by decide) (by decide) (by decide))) c u vb g l' r' s', hgA.len, hgA.wf⟩
    have hEV : w.Exts (putFour W p8 p9 p10 c u vb g l' r' s') := puts_exts (by omega) _ _ (puts_exts (by omega) _ _ (puts_exts (by omega) _ _ hwW3))
    have hq8 : LaysAs (putFour W p8 p9 p10 c u vb g l' r' s') p8 (.cells (#[u.t, u.b, u.h, .int .i64 c.wear.lo, .int .i64 c.wear.hi, .int .i64 c.layer.lo, .int .i64 c.layer.hi, .int .i64 c.rate, .int .i64 c.limit, .int .i64 c.base] : Array Value).toList.toArray 30 (0, 0)) := puts_other n80 _ _ (puts_other n89 _ _ (puts_all hp8 rfl))
    have hq9 : LaysAs (putFour W p8 p9 p10 c u vb g l' r' s') p9 (.cells [vb].toArray 34 (0, 0)) := puts_other n90 _ _ (puts_all (puts_other (Ne.symm n89) _ _ hp9) rfl)
    have hq10 : LaysAs (putFour W p8 p9 p10 c u vb g l' r' s') p10 (.cells (#[l', .int .i64 g.added, .int .i64 g.base, .int .i64 g.jitter, r', s', .int .i64 g.spread, .bool g.stamp] : Array Value).toList.toArray 38 (0, 0)) := puts_all (puts_other (Ne.symm n90) _ _ (puts_other (Ne.symm n80) _ _ hp10)) rfl
    have a0 := LaysAs.cell hp8 0 _ rfl
    have a1 := LaysAs.cell hp8 1 _ rfl
    have a2 := LaysAs.cell hp8 2 _ rfl
    have a3 := LaysAs.cell hp8 3 _ rfl
    have a4 := LaysAs.cell hp8 4 _ rfl
    have a5 := LaysAs.cell hp8 5 _ rfl
    have a6 := LaysAs.cell hp8 6 _ rfl
    have a7 := LaysAs.cell hp8 7 _ rfl
    have a8 := LaysAs.cell hp8 8 _ rfl
    have a9 := LaysAs.cell hp8 9 _ rfl
    have b90 := LaysAs.cell hp9 0 _ rfl
    have d0 := LaysAs.cell hp10 0 _ rfl
    have d1 := LaysAs.cell hp10 1 _ rfl
    have d2 := LaysAs.cell hp10 2 _ rfl
    have d3 := LaysAs.cell hp10 3 _ rfl
    have d4 := LaysAs.cell hp10 4 _ rfl
    have d5 := LaysAs.cell hp10 5 _ rfl
    have d6 := LaysAs.cell hp10 6 _ rfl
    have d7 := LaysAs.cell hp10 7 _ rfl
    have fa0 := laysAs_frozen (i := 0) hp8
    have fa1 := laysAs_frozen (i := 1) hp8
    have fa2 := laysAs_frozen (i := 2) hp8
    have fa3 := laysAs_frozen (i := 3) hp8
    have fa4 := laysAs_frozen (i := 4) hp8
    have fa5 := laysAs_frozen (i := 5) hp8
    have fa6 := laysAs_frozen (i := 6) hp8
    have fa7 := laysAs_frozen (i := 7) hp8
    have fa8 := laysAs_frozen (i := 8) hp8
    have fa9 := laysAs_frozen (i := 9) hp8
    have fb0 := laysAs_frozen (i := 0) hp9
    have fd0 := laysAs_frozen (i := 0) hp10
    have fd1 := laysAs_frozen (i := 1) hp10
    have fd2 := laysAs_frozen (i := 2) hp10
    have fd3 := laysAs_frozen (i := 3) hp10
    have fd4 := laysAs_frozen (i := 4) hp10
    have fd5 := laysAs_frozen (i := 5) hp10
    have fd6 := laysAs_frozen (i := 6) hp10
    have fd7 := laysAs_frozen (i := 7) hp10
    have la := Lays.of_cell a0
    have lb := Lays.of_cell b90
    have ld := Lays.of_cell d0
    haveI : Differ p8 p9 := ⟨n89⟩
    haveI : Differ p9 p8 := ⟨Ne.symm n89⟩
    haveI : Differ p8 p10 := ⟨n80⟩
    haveI : Differ p10 p8 := ⟨Ne.symm n80⟩
    haveI : Differ p9 p10 := ⟨n90⟩
    haveI : Differ p10 p9 := ⟨Ne.symm n90⟩
    have hB1 : LaysAs (w.alloc (.cells #[(⟨.slice qt c.track.length ct, .slice qb c.beds.length cb, .slice qh c.hours.length ch⟩ : CoverV).t, (⟨.slice qt c.track.length ct, .slice qb c.beds.length cb, .slice qh c.hours.length ch⟩ : CoverV).b, (⟨.slice qt c.track.length ct, .slice qb c.beds.length cb, .slice qh c.hours.length ch⟩ : CoverV).h, .int .i64 c.wear.lo, .int .i64 c.wear.hi, .int .i64 c.layer.lo, .int .i64 c.layer.hi, .int .i64 c.rate, .int .i64 c.limit, .int .i64 c.base] 30)) w.heap.size (.cells (#[(⟨.slice qt c.track.length ct, .slice qb c.beds.length cb, .slice qh c.hours.length ch⟩ : CoverV).t, (⟨.slice qt c.track.length ct, .slice qb c.beds.length cb, .slice qh c.hours.length ch⟩ : CoverV).b, (⟨.slice qt c.track.length ct, .slice qb c.beds.length cb, .slice qh c.hours.length ch⟩ : CoverV).h, .int .i64 c.wear.lo, .int .i64 c.wear.hi, .int .i64 c.layer.lo, .int .i64 c.layer.hi, .int .i64 c.rate, .int .i64 c.limit, .int .i64 c.base] : Array Value).toList.toArray 30 (0, 0)) := LaysAs.new w _
    have hO5 := putFour_lays c u vb g l' r' s' (hB1.exts (w' := W) (World.Exts.trans exq hE)) (show w.heap.size ≠ p8 by omega) (show w.heap.size ≠ p9 by omega) (show w.heap.size ≠ p10 by omega)
    have hB7 : LaysAs ((w.alloc (.cells #[(⟨.slice qt c.track.length ct, .slice qb c.beds.length cb, .slice qh c.hours.length ch⟩ : CoverV).t, (⟨.slice qt c.track.length ct, .slice qb c.beds.length cb, .slice qh c.hours.length ch⟩ : CoverV).b, (⟨.slice qt c.track.length ct, .slice qb c.beds.length cb, .slice qh c.hours.length ch⟩ : CoverV).h, .int .i64 c.wear.lo, .int .i64 c.wear.hi, .int .i64 c.layer.lo, .int .i64 c.layer.hi, .int .i64 c.rate, .int .i64 c.limit, .int .i64 c.base] 30)).alloc (.cells #[.slice q0 ts.length cp0] 34)) (w.heap.size + 1) (.cells (#[.slice q0 ts.length cp0]: Array Value).toList.toArray 34 (0, 0)) := laysAs_size (w.alloc (.cells #[(⟨.slice qt c.track.length ct, .slice qb c.beds.length cb, .slice qh c.hours.length ch⟩ : CoverV).t, (⟨.slice qt c.track.length ct, .slice qb c.beds.length cb, .slice qh c.hours.length ch⟩ : CoverV).b, (⟨.slice qt c.track.length ct, .slice qb c.beds.length cb, .slice qh c.hours.length ch⟩ : CoverV).h, .int .i64 c.wear.lo, .int .i64 c.wear.hi, .int .i64 c.layer.lo, .int .i64 c.layer.hi, .int .i64 c.rate, .int .i64 c.limit, .int .i64 c.base] 30)) _ (by simp)
    have hO7 := putFour_lays c u vb g l' r' s' (hB7.exts (w' := W) (World.Exts.trans exq hE)) (show w.heap.size + 1 ≠ p8 by omega) (show w.heap.size + 1 ≠ p9 by omega) (show w.heap.size + 1 ≠ p10 by omega)
    have hB8 : LaysAs (((w.alloc (.cells #[(⟨.slice qt c.track.length ct, .slice qb c.beds.length cb, .slice qh c.hours.length ch⟩ : CoverV).t, (⟨.slice qt c.track.length ct, .slice qb c.beds.length cb, .slice qh c.hours.length ch⟩ : CoverV).b, (⟨.slice qt c.track.length ct, .slice qb c.beds.length cb, .slice qh c.hours.length ch⟩ : CoverV).h, .int .i64 c.wear.lo, .int .i64 c.wear.hi, .int .i64 c.layer.lo, .int .i64 c.layer.hi, .int .i64 c.rate, .int .i64 c.limit, .int .i64 c.base] 30)).alloc (.cells #[.slice q0 ts.length cp0] 34)).alloc (.cells #[.slice q1 g.loads.length cp1, .int .i64 g.added, .int .i64 g.base, .int .i64 g.jitter, .slice q2 g.runners.length cp2, .slice q3 g.strokes.length cp3, .int .i64 g.spread, .bool g.stamp] 38)) (w.heap.size + 1 + 1) (.cells (#[.slice q1 g.loads.length cp1, .int .i64 g.added, .int .i64 g.base, .int .i64 g.jitter, .slice q2 g.runners.length cp2, .slice q3 g.strokes.length cp3, .int .i64 g.spread, .bool g.stamp]: Array Value).toList.toArray 38 (0, 0)) := laysAs_size ((w.alloc (.cells #[(⟨.slice qt c.track.length ct, .slice qb c.beds.length cb, .slice qh c.hours.length ch⟩ : CoverV).t, (⟨.slice qt c.track.length ct, .slice qb c.beds.length cb, .slice qh c.hours.length ch⟩ : CoverV).b, (⟨.slice qt c.track.length ct, .slice qb c.beds.length cb, .slice qh c.hours.length ch⟩ : CoverV).h, .int .i64 c.wear.lo, .int .i64 c.wear.hi, .int .i64 c.layer.lo, .int .i64 c.layer.hi, .int .i64 c.rate, .int .i64 c.limit, .int .i64 c.base] 30)).alloc (.cells #[.slice q0 ts.length cp0] 34)) _ (by simp)
    have hO8 := putFour_lays c u vb g l' r' s' (hB8.exts (w' := W) (World.Exts.trans exq hE)) (show w.heap.size + 1 + 1 ≠ p8 by omega) (show w.heap.size + 1 + 1 ≠ p9 by omega) (show w.heap.size + 1 + 1 ≠ p10 by omega)
    have hB9 : LaysAs ((((w.alloc (.cells #[(⟨.slice qt c.track.length ct, .slice qb c.beds.length cb, .slice qh c.hours.length ch⟩ : CoverV).t, (⟨.slice qt c.track.length ct, .slice qb c.beds.length cb, .slice qh c.hours.length ch⟩ : CoverV).b, (⟨.slice qt c.track.length ct, .slice qb c.beds.length cb, .slice qh c.hours.length ch⟩ : CoverV).h, .int .i64 c.wear.lo, .int .i64 c.wear.hi, .int .i64 c.layer.lo, .int .i64 c.layer.hi, .int .i64 c.rate, .int .i64 c.limit, .int .i64 c.base] 30)).alloc (.cells #[.slice q0 ts.length cp0] 34)).alloc (.cells #[.slice q1 g.loads.length cp1, .int .i64 g.added, .int .i64 g.base, .int .i64 g.jitter, .slice q2 g.runners.length cp2, .slice q3 g.strokes.length cp3, .int .i64 g.spread, .bool g.stamp] 38)).alloc (.cells #[.int .i64 n.total.lo, .int .i64 n.total.hi, .int .i64 n.added, .int .i64 n.warm, .int .i64 n.hard.lo, .int .i64 n.hard.hi, .bool n.stamp] 40)) (w.heap.size + 1 + 1 + 1) (.cells (#[.int .i64 n.total.lo, .int .i64 n.total.hi, .int .i64 n.added, .int .i64 n.warm, .int .i64 n.hard.lo, .int .i64 n.hard.hi, .bool n.stamp]: Array Value).toList.toArray 40 (0, 0)) := laysAs_size (((w.alloc (.cells #[(⟨.slice qt c.track.length ct, .slice qb c.beds.length cb, .slice qh c.hours.length ch⟩ : CoverV).t, (⟨.slice qt c.track.length ct, .slice qb c.beds.length cb, .slice qh c.hours.length ch⟩ : CoverV).b, (⟨.slice qt c.track.length ct, .slice qb c.beds.length cb, .slice qh c.hours.length ch⟩ : CoverV).h, .int .i64 c.wear.lo, .int .i64 c.wear.hi, .int .i64 c.layer.lo, .int .i64 c.layer.hi, .int .i64 c.rate, .int .i64 c.limit, .int .i64 c.base] 30)).alloc (.cells #[.slice q0 ts.length cp0] 34)).alloc (.cells #[.slice q1 g.loads.length cp1, .int .i64 g.added, .int .i64 g.base, .int .i64 g.jitter, .slice q2 g.runners.length cp2, .slice q3 g.strokes.length cp3, .int .i64 g.spread, .bool g.stamp] 38)) _ (by simp)
    have hO9 := putFour_lays c u vb g l' r' s' (hB9.exts (w' := W) (World.Exts.trans exq hE)) (show w.heap.size + 1 + 1 + 1 ≠ p8 by omega) (show w.heap.size + 1 + 1 + 1 ≠ p9 by omega) (show w.heap.size + 1 + 1 + 1 ≠ p10 by omega)
    clear hB1 hB7 hB8 hB9 hcA hcT1 hcT2 hcT3 hpA hpT1 hpT2 hbA hbT hbS hgA hT1 hT2 hT3 hbx hp8 hp9 hp10 hΦ hkn
    obtain ⟨ut, ub, uh⟩ := u
    obtain ⟨xt, yt, e1⟩ : ∃ q m, ut = .slice q c.track.length m := hcA2.tr.len
    obtain ⟨xb, yb, e2⟩ : ∃ q m, ub = .slice q c.beds.length m := hcA2.bd.len
    obtain ⟨xh, yh, e3⟩ : ∃ q m, uh = .slice q c.hours.length m := hcA2.hr.len
    obtain ⟨xp, yp, e4⟩ : ∃ q m, v3 = .slice q ps'.length m := hpA2.row.len
    obtain ⟨xv, yv, e5⟩ : ∃ q m, vb = .slice q ts'.length m := hbA2.row.len
    obtain ⟨xl, yl, e6⟩ : ∃ q m, l' = .slice q g.loads.length m := hgA2.l.len
    obtain ⟨xr, yr, e7⟩ : ∃ q m, r' = .slice q g.runners.length m := hgA2.r.len
    obtain ⟨xs, ys, e8⟩ : ∃ q m, s' = .slice q g.strokes.length m := hgA2.s.len
    subst e1 e2 e3 e4 e5 e6 e7 e8
    have hsz3 : w.heap.size + 4 ≤ W.heap.size := by
      have h1 := hE.size
      have h2 := World.size_ext_le _ X2
      have h3 := World.size_ext_le _ X3
      simp at h2 h3
      omega
    have HCA := Lib.hid hcA2
    clear hcA2
    have HPA := Lib.hid hpA2
    clear hpA2
    have HBA := Lib.hid hbA2
    clear hbA2
    have HGB := Lib.hid hgA2
    clear hgA2
    have HQ8 := Lib.hid hq8
    clear hq8
    have HQ9 := Lib.hid hq9
    clear hq9
    have HQ10 := Lib.hid hq10
    clear hq10
    have HO5 := Lib.hid hO5
    clear hO5
    have HO7 := Lib.hid hO7
    clear hO7
    have HO8 := Lib.hid hO8
    clear hO8
    have HO9 := Lib.hid hO9
    clear hO9
    have HPS := Lib.hid hps
    clear hps
    have HTS := Lib.hid hts
    clear hts
    go_wp2_with fail
    obtain ⟨V, hV⟩ : ∃ V, putFour W p8 p9 p10 c ⟨.slice xt c.track.length yt, .slice xb c.beds.length yb, .slice xh c.hours.length yh⟩ (.slice xv ts'.length yv) g (.slice xl g.loads.length yl) (.slice xr g.runners.length yr) (.slice xs g.strokes.length ys) = V := ⟨_, rfl⟩
    change Calls Tryz.prog 13 _ (putFour W p8 p9 p10 c ⟨.slice xt c.track.length yt, .slice xb c.beds.length yb, .slice xh c.hours.length yh⟩ (.slice xv ts'.length yv) g (.slice xl g.loads.length yl) (.slice xr g.runners.length yr) (.slice xs g.strokes.length ys)) _
    rw [hV]
    rw [hV] at HCA HPA HBA HGB HQ8 HQ9 HQ10 HO5 HO7 HO8 HO9 hEV
    clear a0 a1 a2 a3 a4 a5 a6 a7 a8 a9 b90 d0 d1 d2 d3 d4 d5 d6 d7 fa0 fa1 fa2 fa3 fa4 fa5 fa6 fa7 fa8 fa9 fb0 fd0 fd1 fd2 fd3 fd4 fd5 fd6 fd7 la lb ld hV hwW3 hE hb8 hb9 hb10 hsz3
    clear W
    have a0 := LaysAs.cell HQ8.out 0 _ rfl
    have a1 := LaysAs.cell HQ8.out 1 _ rfl
    have a2 := LaysAs.cell HQ8.out 2 _ rfl
    have a3 := LaysAs.cell HQ8.out 3 _ rfl
    have a4 := LaysAs.cell HQ8.out 4 _ rfl
    have a5 := LaysAs.cell HQ8.out 5 _ rfl
    have a6 := LaysAs.cell HQ8.out 6 _ rfl
    have a7 := LaysAs.cell HQ8.out 7 _ rfl
    have a8 := LaysAs.cell HQ8.out 8 _ rfl
    have a9 := LaysAs.cell HQ8.out 9 _ rfl
    have b90 := LaysAs.cell HQ9.out 0 _ rfl
    have d0 := LaysAs.cell HQ10.out 0 _ rfl
    have d1 := LaysAs.cell HQ10.out 1 _ rfl
    have d2 := LaysAs.cell HQ10.out 2 _ rfl
    have d3 := LaysAs.cell HQ10.out 3 _ rfl
    have d4 := LaysAs.cell HQ10.out 4 _ rfl
    have d5 := LaysAs.cell HQ10.out 5 _ rfl
    have d6 := LaysAs.cell HQ10.out 6 _ rfl
    have d7 := LaysAs.cell HQ10.out 7 _ rfl
    have e0 := LaysAs.cell HO5.out 0 _ rfl
    have e1 := LaysAs.cell HO5.out 1 _ rfl
    have e2 := LaysAs.cell HO5.out 2 _ rfl
    have e3 := LaysAs.cell HO5.out 3 _ rfl
    have e4 := LaysAs.cell HO5.out 4 _ rfl
    have e5 := LaysAs.cell HO5.out 5 _ rfl
    have e6 := LaysAs.cell HO5.out 6 _ rfl
    have e7 := LaysAs.cell HO5.out 7 _ rfl
    have e8 := LaysAs.cell HO5.out 8 _ rfl
    have e9 := LaysAs.cell HO5.out 9 _ rfl
    have f0 := LaysAs.cell HO7.out 0 _ rfl
    have g80 := LaysAs.cell HO8.out 0 _ rfl
    have g81 := LaysAs.cell HO8.out 1 _ rfl
    have g82 := LaysAs.cell HO8.out 2 _ rfl
    have g83 := LaysAs.cell HO8.out 3 _ rfl
    have g84 := LaysAs.cell HO8.out 4 _ rfl
    have g85 := LaysAs.cell HO8.out 5 _ rfl
    have g86 := LaysAs.cell HO8.out 6 _ rfl
    have g87 := LaysAs.cell HO8.out 7 _ rfl
    have n90 := LaysAs.cell HO9.out 0 _ rfl
    have n91 := LaysAs.cell HO9.out 1 _ rfl
    have n92 := LaysAs.cell HO9.out 2 _ rfl
    have n93 := LaysAs.cell HO9.out 3 _ rfl
    have n94 := LaysAs.cell HO9.out 4 _ rfl
    have n95 := LaysAs.cell HO9.out 5 _ rfl
    have n96 := LaysAs.cell HO9.out 6 _ rfl
    have la := Lays.of_cell a0
    have lb := Lays.of_cell b90
    have ld := Lays.of_cell d0
    have le := Lays.of_cell e0
    have lf := Lays.of_cell f0
    have lg := Lays.of_cell g80
    have ln := Lays.of_cell n90
    have hpf2 : ∀ x ∈ ps', x.1.length ≤ 1000 := fun x hx => by
      have h1 : x.1 ∈ ps'.map Prod.fst := List.mem_map_of_mem hx
      rw [HPS.out] at h1
      obtain ⟨y, hy, e⟩ := List.mem_map.1 h1
      rw [← e]
      exact HPF.out y hy
    have hI1 := fun (W : World) (hE : V.Exts W) => sheet_OfIce_any c _ ps' _ W (HCA.out.mono hE) (HPA.out.mono hE) (HLD.out.mono (hEV.trans hE)) hpf2 HSD.out
    have hI2 := fun (W : World) (hE : w.Exts W) => r11_OfIce_any c _ ps _ W (HC.out.mono hE) (HP.out.mono hE) HPF.out
    have hJ1 := fun (W : World) (hE : V.Exts W) => sheet_OfJudge_any ts' _ g _ _ _ n W (HBA.out.mono hE) (HGB.out.mono hE) (HCD.out.mono (hEV.trans hE))
    have hJ2 := fun (W : World) (hE : w.Exts W) => r11_OfJudge_any ts _ g _ _ _ n W (HB.out.mono hE) (HGA.out.mono hE)
    simp only [HPS.out] at hI1
    simp only [HTS.out] at hJ1
    generalize planErr c (ps.map Prod.fst) = er at hI1 hI2
    generalize (if er = 0 then (3 : Int) else 0) = kd at hI1 hI2
    generalize (if er = 0 then rowsTo c (ps.map Prod.fst) c.hours.length else []) = rws at hI1 hI2
    generalize (judgeR (ts.map Prod.fst) g n).2 = ej at hJ1 hJ2
    generalize (if ej = 0 then (4 : Int) else 0) = kj at hJ1 hJ2
    generalize (if ej = 0 then idxTo ((judgeR (ts.map Prod.fst) g n).1.1 ++ [(judgeR (ts.map Prod.fst) g n).1.2]) ((judgeR (ts.map Prod.fst) g n).1.1.length + 1) else []) = rj at hJ1 hJ2
    have HI1 := Lib.hid hI1
    clear hI1
    have HI2 := Lib.hid hI2
    clear hI2
    have HJ1 := Lib.hid hJ1
    clear hJ1
    have HJ2 := Lib.hid hJ2
    clear hJ2
    clear hpf2
    go_wp2_with (first
      | (go_at_call 13; refine (HI1.out _ exq).mono ?_; rintro e w' ⟨va, xa, rfl, hva, hxa, X4, rfl⟩; obtain ⟨qa, ca, rfl⟩ := hva.row.len; have HVA := Lib.hid hva; have HXA := Lib.hid hxa; clear hva hxa)
      | (go_at_call 14; refine (HI2.out _ (exf hEV)).mono ?_; rintro e w' ⟨vc, xc, rfl, hvc, hxc, X5, rfl⟩; obtain ⟨qc, cc, rfl⟩ := hvc.row.len; have HVC := Lib.hid hvc; have HXC := Lib.hid hxc; clear hvc hxc)
      | (go_at_call 15; refine (HJ1.out _ exq).mono ?_; rintro e w' ⟨vj, xj, rfl, hvj, hxj, X6, rfl⟩; obtain ⟨qj, cj, rfl⟩ := hvj.row.len; have HVJ := Lib.hid hvj; have HXJ := Lib.hid hxj; clear hvj hxj)
      | (go_at_call 16; refine (HJ2.out _ (exf hEV)).mono ?_; rintro e w' ⟨vk, xk, rfl, hvk, hxk, X7, rfl⟩; obtain ⟨qk, ck, rfl⟩ := hvk.row.len; have HVK := Lib.hid hvk; have HXK := Lib.hid hxk; clear hvk hxk)
      | (go_at_call 17; ((with_reducible refine (r11_Same_any kd xa xc _ _ _ ?ha ?hb ?hc).mono ?_); (case ha => exact HVA.out.mono exq); (case hb => exact HVC.out.mono exq); (case hc => exact HXA.out.trans HXC.out.symm); rintro e w' ⟨rfl, X8, rfl⟩))
      | (go_at_call 17; ((with_reducible refine (r11_Same_any kj xj xk _ _ _ ?hd ?he ?hf).mono ?_); (case hd => exact HVJ.out.mono exq); (case he => exact HVK.out.mono exq); (case hf => exact HXJ.out.trans HXK.out.symm); rintro e w' ⟨rfl, X9, rfl⟩))
      | (go_at_call 18; refine (r02_Same_any c _ _ _ (HCA.out.mono exq) (HC.out.mono (exf hEV))).mono ?_; rintro e w' ⟨rfl, X10, rfl⟩)
      | (go_at_call 19; refine (r02_SameLists_any ps' ps _ _ _ (HPA.out.mono exq) (HP.out.mono (exf hEV)) HPS.out).mono ?_; rintro e w' ⟨rfl, X11, rfl⟩)
      | (go_at_call 20; refine (r04_SameBay_any ts' ts _ _ _ (HBA.out.mono exq) (HB.out.mono (exf hEV)) HTS.out).mono ?_; rintro e w' ⟨rfl, X14, rfl⟩)
      | (go_at_call 21; refine (r04_SameGear_any g _ _ _ _ _ _ _ (HGB.out.mono exq) (HGA.out.mono (exf hEV))).mono ?_; rintro e w' ⟨rfl, X15, rfl⟩))
    go_ret
    exact ⟨rfl, (exf hEV)⟩
end Go.Proofs.YtilmniopollbiaaGreatDoor
