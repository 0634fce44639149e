/-
  Several texts in one: see the heads of its parts.
-/

import Derived.Test.YtcickafaomfbmaaGreatDoorZSJesTm
import Derived.Test.YtcickafaomfbmaaGreatDoorZSJesTe
import Derived.Test.YtcickafaomfbmaaGreatDoorZSJesSoT
import Derived.Test.YtcickafaomfbmaaGreatDoorZSJesBt
import Derived.Deep.RegionLaw
/-
  Walks of package scale and of its reference: what scales can weigh together.
-/
namespace Go
open Go.RowKit
theorem LaysAs.set {w : World} {b i : Nat} {cs : List Value} {t : TypeId} {fr : Nat × Nat} (h : LaysAs w b (.cells cs.toArray t fr)) (u : Value) : LaysAs (w.setCell ⟨b, i, none⟩ u) b (.cells (cs.set i u).toArray t fr) := by
  unfold LaysAs World.setCell at *
  simp [Array.getElem?_modify, h]
/-- A row of other things than slices does not lie in a box of a slice. -/
theorem off_box {α : Type} {enc : α → List Value} {k b n c : Nat} {q : Option Addr} {t : TypeId} {fr : Nat × Nat} {W : World} {v : Value} {xs : List α} (hb : LaysAs W b (.cells #[.slice q n c] t fr)) (h : IsRow enc k W v xs) (henc : ∀ x, ∃ u, (enc x)[0]? = some u ∧ u ≠ .slice q n c) : RowOff enc k W [b] v xs := by
  refine ⟨h, ?_⟩
  obtain ⟨p, b', o, cap, rfl, hm, hp, hc⟩ := h.ex
  rcases xs with _ | ⟨x, xs⟩
  · exact .inl rfl
  · refine .inr fun g hg e => ?_
    rw [List.mem_singleton.1 hg] at e
    obtain ⟨rfl, hl⟩ := hp (by simp)
    simp [Value.ownBlock] at e
    subst e
    obtain ⟨u, hu, hne⟩ := henc x
    have h1 := hc 0 x rfl 0 u hu
    unfold LaysAs at hb
    simp [World.cell?, hb] at h1
    rcases Nat.eq_zero_or_pos o with ho | ho
    · subst ho; simp at h1; exact hne h1.symm
    · rw [List.getElem?_eq_none (by simp; omega)] at h1; cases h1
theorem laysAs_size (w : World) (o : Obj) {n : Nat} (h : n = w.heap.size) : LaysAs (w.alloc o) n o := by subst h; exact LaysAs.new w o
theorem BlkAt.new (w : World) (cs : List Value) (t : TypeId) {n : Nat} (h : n = w.heap.size) : BlkAt (w.alloc (.cells cs.toArray t (0, 0))) n cs := by
  have hl := laysAs_size w (.cells cs.toArray t (0, 0)) h
  refine ⟨fun q u hq => LaysAs.cell hl q u hq, fun q _ => ?_⟩
  unfold LaysAs at hl
  simp [World.frozen?, hl]
theorem grown_exts {W W' : World} {b : Option Nat} (hE : W.Exts W') : W.grownBy W' b :=
  ⟨hE.below.os, hE.below.tape, hE.below.output, hE.below.size, fun k hk _ => hE.below.block k hk⟩
theorem grown_set (W : World) (b i : Nat) (u : Value) : W.grownBy (W.setCell ⟨b, i, none⟩ u) (some b) :=
  ⟨rfl, rfl, rfl, by simp, fun k _ hne => World.heap_set_other W _ u (fun e => hne (by rw [e]))⟩
theorem grown_trans {A B C : World} {b : Nat} (h : A.grownBy B (some b)) (k : B.grownBy C (some b)) : A.grownBy C (some b) := h.andThen k (fun _ hj => .inr hj)
theorem LaysAs.grown {W W' : World} {b g : Nat} {ob : Obj} (h : LaysAs W b ob) (hg : W.grownBy W' (some g)) (hne : b ≠ g) : LaysAs W' b ob := (hg.block b h.lt (fun e => hne (by cases e; rfl))).trans h
theorem RowOff.grown {α : Type} {enc : α → List Value} {k g : Nat} {w w' : World} {v : Value} {xs : List α} (h : RowOff enc k w [g] v xs) (hg : w.grownBy w' (some g)) : RowOff enc k w' [g] v xs := by
  refine ⟨?_, h.off⟩
  obtain ⟨p, b, o, cap, rfl, hm, hp, hc⟩ := h.row.ex
  refine ⟨p, b, o, cap, rfl, hm, fun h0 => ⟨(hp h0).1, ⟨Nat.lt_of_lt_of_le (hp h0).2.lt hg.size⟩⟩, fun i x hx j u' hu => ?_⟩
  have h0 : 0 < xs.length := by have := (List.getElem?_eq_some_iff.1 hx).1; omega
  have hb : b ≠ g := fun e => by
    rcases h.off with h1 | h1
    · rw [h1] at h0; simp at h0
    · have h2 := h1 g (by simp)
      rw [(hp h0).1, e] at h2; exact h2 rfl
  exact hg.cell (hc i x hx j u' hu) (fun e => hb (by cases e; rfl))
end Go
namespace Go.Proofs.YtcickafaomfbmaaGreatDoor
open Go.RowKit Kr
set_option linter.unusedSimpArgs false

/-- How far the totals of k scales can reach. -/
def TotOk (k : Nat) (all : List Span) : Prop := Neat all ∧ Within 0 (1000000 + 6000000 * k) all
theorem within_le {a b c : Int} {l : List Span} (h : Within a b l) (hc : b ≤ c) : Within a c l := fun s hs => by have := h s hs; omega
structure PlusOk (a b : List Span) : Prop where
  fa : Full a
  fb : Full b
  wa : Within 0 40000000000 a
  wb : Within 0 40000000000 b
  hl : a.length * b.length ≤ 1000000000000
theorem tot_step {s : Scale} {ls : List Load} {all : List Span} {k : Nat} (hr : right s = true) (h6 : ls.length ≤ 6) (h : TotOk k all) (hk : k ≤ 10) : PlusOk all (sums (parts s ls)) ∧ TotOk (k + 1) (plus all (sums (parts s ls))) := by
  have hg := parts_good s ls
  have hn := sums_neat hg
  have hw := sums_within hg
  have hlen : (sums (parts s ls)).length ≤ 4221 := Nat.le_trans (merged_len _) (by rw [List.length_map]; exact parts_len ls hr)
  have hal := neat_len h.1 h.2 (by omega)
  have hl2 : all.length ≤ 70000000 := by omega
  refine ⟨⟨h.1.1, hn.1, within_le h.2 (by omega), within_le hw (by omega), ?_⟩, plus_neat h.1.1 hn.1, ?_⟩
  · calc all.length * (sums (parts s ls)).length ≤ 70000000 * 4221 := Nat.mul_le_mul hl2 hlen
      _ ≤ 1000000000000 := by decide
  · refine within_le (Kr.plus_within h.1.1 hn.1 h.2 hw) (by omega)

/-- What the three calls of a round leave. -/
def TotAt (s : Scale) (ls : List Load) (all : List Span) (c p q r : Nat) (W : World) (v : Value) : Prop :=
  (c = p → IsRow (fun t : Kr.Part => [.int .i64 t.gain, .int .i64 t.off, .int .i64 t.sum.lo, .int .i64 t.sum.hi]) 4 W v (parts s ls)) ∧ (c = q → IsRow (fun t : Kr.Span => [.int .i64 t.lo, .int .i64 t.hi]) 2 W v (sums (parts s ls))) ∧ (c = r → IsRow (fun t : Kr.Span => [.int .i64 t.lo, .int .i64 t.hi]) 2 W v (plus all (sums (parts s ls))))
theorem TotAt.mono {s : Scale} {ls : List Load} {all : List Span} {c p q r : Nat} {W W' : World} {v : Value} (h : TotAt s ls all c p q r W v) (hE : W.Exts W') : TotAt s ls all c p q r W' v :=
  ⟨fun e => (h.1 e).mono hE, fun e => (h.2.1 e).mono hE, fun e => (h.2.2 e).mono hE⟩

def TotAtO (s : Scale) (ls : List Load) (all : List Span) (b0 c p q r : Nat) (W : World) (v : Value) : Prop := TotAt s ls all c p q r W v ∧ (c = r → RowT 28 W v ∧ RowN b0 v)
theorem TotAtO.mono {s : Scale} {ls : List Load} {all : List Span} {b0 c p q r : Nat} {W W' : World} {v : Value} (h : TotAtO s ls all b0 c p q r W v) (hE : W.Exts W') : TotAtO s ls all b0 c p q r W' v :=
  ⟨h.1.mono hE, fun e => ⟨(h.2 e).1.exts hE, (h.2 e).2⟩⟩
set_option maxRecDepth 4000 in
set_option maxHeartbeats 2000000 in
theorem hall_totals_1_any (s : Scale) (tv : Value) (g : Gear) (lv rv sv : Value) (all : List Span) (va : Value) (ba bg k : Nat) (w : World) (hrow : IsRow (fun t : Kr.Trial => [.int .i64 t.weight, .int .i64 t.shown]) 2 w tv s.trials) (hr : right s = true) (hg : GearAt w (g, lv, rv, sv)) (h6 : g.loads.length ≤ 6)
    (hsh : ∀ l ∈ g.loads, l.scale = s.id → -2000000 ≤ l.shown ∧ l.shown ≤ 2000000) (hall : IsRow (fun t : Kr.Span => [.int .i64 t.lo, .int .i64 t.hi]) 2 w va all) (ht : TotOk k all) (hk : k ≤ 10) (hba : LaysAs w ba (.cells #[va] 115 (0, 0))) (hbg : LaysAs w bg (.cells #[lv, .int .i64 g.added, .int .i64 g.base, .int .i64 g.jitter, rv, sv, .int .i64 g.spread, .bool g.stamp] 55 (0, 0))) :
    Calls Tryz.prog 90 #[.agg #[.int .i64 s.id, .int .i64 s.step, .int .i64 s.gain.lo, .int .i64 s.gain.hi, .int .i64 s.off.lo, .int .i64 s.off.hi, tv], .pointer (some ⟨ba, 0, none⟩), .pointer (some ⟨bg, 0, none⟩)] w fun e w' => ∃ (v' : Value) (X : Ext w), e = .returned (.tuple #[]) ∧ w' = (w.ext X).setCell ⟨ba, 0, none⟩ v' ∧ IsRow (fun t : Kr.Span => [.int .i64 t.lo, .int .i64 t.hi]) 2 (w.ext X) v' (plus all (sums (parts s g.loads))) ∧ RowT 28 (w.ext X) v' ∧ RowN w.heap.size v' := by
  obtain ⟨p, cap, rfl⟩ := hrow.len
  obtain ⟨pa, capa, rfl⟩ := hall.len
  have hg8 : ∀ i u, [lv, .int .i64 g.added, .int .i64 g.base, .int .i64 g.jitter, rv, sv, .int .i64 g.spread, .bool g.stamp][i]? = some u → w.cell? ⟨bg, i, none⟩ = some u := fun i u hu => LaysAs.cell hbg i u hu
  have g0 := hg8 0 _ rfl
  have g1 := hg8 1 _ rfl
  have g2 := hg8 2 _ rfl
  have g3 := hg8 3 _ rfl
  have g4 := hg8 4 _ rfl
  have g5 := hg8 5 _ rfl
  have g6 := hg8 6 _ rfl
  have g7 := hg8 7 _ rfl
  have a0 := LaysAs.cell hba 0 _ rfl
  have fa : w.frozen? ⟨ba, 0, none⟩ = false := by unfold LaysAs at hba; simp [World.frozen?, hba]
  have hla := Lays.of_cell a0
  have hlg := Lays.of_cell g0
  obtain ⟨hpo, -⟩ := tot_step hr h6 ht hk
  have HPO := Lib.hid hpo
  clear hpo
  have HR := Lib.hid hrow
  clear hrow
  have HG := Lib.hid hg
  clear hg
  have HSH := Lib.hid hsh
  clear hsh
  have HALL := Lib.hid hall
  clear hall
  have HOK := Lib.hid hr
  clear hr
  clear hg8 ht hba hbg
  go_enter Tryz.func90, Tryz.ntmps90
  go_wp2_with fail
  refine wp_region_calls 6 (fun i => i == 3 || i == 4 || i == 5) (fun c v W => TotAtO s g.loads all w.heap.size c 3 4 5 W v) (by kernel_rfl) (fun ν => by kernel_rfl) (by kernel_rfl) (by kernel_rfl) (by kernel_rfl) (by kernel_rfl) ?mono ?_
  rotate_left 1
  apply Exists.intro
  refine ⟨fun ν L hL => ?_, fun c oc hc hU ν W hE hΦ => ?_, fun ν W hE hΦ => ?_⟩
  · simp only [modU, cOp, List.mapIdx_cons, List.mapIdx_nil, Nat.zero_add, Nat.reduceAdd, Nat.reduceBEq, Bool.or_false, Bool.false_or, Bool.or_true, Bool.true_or, Bool.or_self, Bool.false_eq_true, if_false, if_true, List.take_succ_cons, List.take_zero]
    repeat (go_big_quiet_step (fail))
    exact wpQuiet_nil hL
  · simp at hU
    rcases hU with (rfl | rfl) | rfl
    · simp only [List.getElem?_cons_succ, List.getElem?_cons_zero, Option.some.injEq] at hc
      subst hc
      refine Oper.gives_fn rfl rfl rfl (enters_of Tryz.func93 (by kernel_rfl) rfl) ?_ rfl
      refine (scale_truths_any s _ g _ _ _ W (HR.out.mono (World.Exts.trans exq hE)) HOK.out (HG.out.mono (World.Exts.trans exq hE)) h6 HSH.out).mono ?_
      rintro e W' ⟨v', rfl, h1, h2⟩
      exact ⟨v', rfl, h2, ⟨fun _ => h1, fun e => (by cases e), fun e => (by cases e)⟩, fun e => (by cases e)⟩
    · simp only [List.getElem?_cons_succ, List.getElem?_cons_zero, Option.some.injEq] at hc
      subst hc
      have h3 := (hΦ 3 rfl ⟨⟨3, .data⟩, by simp, rfl, rfl⟩).1.1 rfl
      refine Oper.gives_fn rfl rfl rfl (enters_of Tryz.func92 (by kernel_rfl) rfl) ?_ rfl
      refine (scale_sums_any _ _ W h3 g.loads.length (by omega) (parts_good _ _) (Nat.le_trans (parts_len _ HOK.out) (by decide))).mono ?_
      rintro e W' ⟨v', rfl, h1, h2⟩
      exact ⟨v', rfl, h2, ⟨fun e => (by cases e), fun _ => h1, fun e => (by cases e)⟩, fun e => (by cases e)⟩
    · simp only [List.getElem?_cons_succ, List.getElem?_cons_zero, Option.some.injEq] at hc
      subst hc
      have h4 := (hΦ 4 rfl ⟨⟨4, .data⟩, by simp, rfl, rfl⟩).1.2.1 rfl
      refine Oper.gives_fn rfl rfl rfl (enters_of Tryz.func91 (by kernel_rfl) rfl) ?_ rfl
      have h := HPO.out
      refine (scale_plus_own all _ _ _ W (HALL.out.mono (World.Exts.trans exq hE)) h4 h.fa h.fb h.wa h.wb h.hl).mono ?_
      rintro e W' ⟨v', rfl, h1, h2, h9, h8⟩
      exact ⟨v', rfl, h2, ⟨fun e => (by cases e), fun e => (by cases e), fun _ => h1⟩, fun _ => ⟨h9, h8.le (World.Exts.size (World.Exts.trans (a := w) exq hE))⟩⟩
  · have h5 := (hΦ 5 (by decide) rfl).1.2.2 rfl
    obtain ⟨h5t, h5n⟩ := (hΦ 5 (by decide) rfl).2 rfl
    simp only [List.drop_succ_cons, List.drop_zero]
    generalize ν 5 = v5 at h5 h5t h5n ⊢
    obtain ⟨q5, c5, rfl⟩ := h5.len
    obtain ⟨XS, rfl⟩ := hE
    have H5 := Lib.hid h5
    clear h5
    have H5T := Lib.hid h5t
    clear h5t
    have H5N := Lib.hid h5n
    clear h5n
    clear hΦ
    go_wp2_with fail
    go_end0
    obtain ⟨Y, hY⟩ : w.Exts ((w.alloc (.cells #[.int .i64 s.id, .int .i64 s.step, .int .i64 s.gain.lo, .int .i64 s.gain.hi, .int .i64 s.off.lo, .int .i64 s.off.hi, .slice p s.trials.length cap] 110)).ext XS) := exq
    refine ⟨_, Y, rfl, by rw [← hY], ?_⟩
    rw [← hY]
    exact ⟨H5.out, H5T.out, H5N.out⟩
  case mono => exact fun c v W W' h hE => h.mono hE

theorem one_span_row (w : World) (a : Int) {n : Nat} (hn : n = w.heap.size) : IsRow (fun t : Kr.Span => [.int .i64 t.lo, .int .i64 t.hi]) 2 (w.alloc (.cells #[.int .i64 a, .int .i64 a] 28)) (.slice (some ⟨n, 0, none⟩) 1 1) [⟨a, a⟩] := by
  have h : BlkAt (w.alloc (.cells [.int .i64 a, .int .i64 a].toArray 28)) n (([⟨a, a⟩] : List Span).flatMap fun t => [.int .i64 t.lo, .int .i64 t.hi]) := BlkAt.new w _ _ hn
  exact IsRow.of_blk (enc := fun t : Kr.Span => [.int .i64 t.lo, .int .i64 t.hi]) (k := 2) (xs := [⟨a, a⟩]) (fun _ => rfl) h ⟨by subst hn; simp⟩ (by simp)
theorem totalsL_snoc {ls : List Load} {all : List Span} {l : List Scale} {k : Nat} {s : Scale} (hs : l[k]? = some s) : totalsL ls all (l.take (k + 1)) = plus (totalsL ls all (l.take k)) (sums (parts s ls)) := by
  unfold totalsL; rw [take_snoc hs, List.foldl_append]; rfl

set_option maxRecDepth 4000 in
set_option maxHeartbeats 2000000 in
theorem hall_totals_own (ts : List (Kr.Scale × Value)) (v : Value) (g : Gear) (lv rv sv : Value) (hb : Nat) (w : World) (hh : HallAt Tryz.prog 3 w hb v ts) (hg : GearAt w (g, lv, rv, sv)) (hn : ts.length ≤ 4) (hok : ∀ x ∈ ts, right x.1 = true)
    (h6 : g.loads.length ≤ 6) (hsh : ∀ x ∈ ts, ∀ l ∈ g.loads, l.scale = x.1.id → -2000000 ≤ l.shown ∧ l.shown ≤ 2000000) (hadd : 0 ≤ g.added ∧ g.added ≤ 1000000) :
    Calls Tryz.prog 42 #[.pointer (some ⟨hb, 0, none⟩), .agg #[lv, .int .i64 g.added, .int .i64 g.base, .int .i64 g.jitter, rv, sv, .int .i64 g.spread, .bool g.stamp]] w fun e w' => ∃ v', e = .returned v' ∧ IsRow (fun t : Kr.Span => [.int .i64 t.lo, .int .i64 t.hi]) 2 w' v' (totals (ts.map Prod.fst) g) ∧ w.Exts w' ∧ RowT 28 w' v' ∧ RowN w.heap.size v' := by
  have htr := hh.bay.tr
  have hfin : totalsL g.loads [⟨g.added, g.added⟩] (((usedBay g.loads ts).map Prod.fst).take (usedBay g.loads ts).length) = totals (ts.map Prod.fst) g := by
    unfold totals; rw [← usedBay_fst, List.take_of_length_le (by simp)]
  have HH := Lib.hid hh
  clear hh
  have HG := Lib.hid hg
  clear hg
  have HTR := Lib.hid htr
  clear htr
  have HOK := Lib.hid hok
  clear hok
  have HSH := Lib.hid hsh
  clear hsh
  have HFIN := Lib.hid hfin
  clear hfin
  go_enter Tryz.func42, Tryz.ntmps42
  go_wp2_with (go_at_call 94; refine (hall_used_any ts _ g _ _ _ _ _ (HH.out.mono exq) (HG.out.mono exq) (by omega) HOK.out).mono ?_; rintro e w' ⟨vu, rfl, hbu, X2, rfl⟩; obtain ⟨qu, cu, rfl⟩ := hbu.row.len; have HBU := Lib.hid hbu; clear hbu)
  have hba : LaysAs (World.ext _ X2) (w.heap.size + 1 + 1) (.cells #[.slice (some ⟨w.heap.size + 1, 0, none⟩) 1 1] 115 (0, 0)) := LaysAs.exts (laysAs_size _ _ (by simp)) ⟨X2, rfl⟩
  have hbg : LaysAs (World.ext _ X2) w.heap.size (.cells #[lv, .int .i64 g.added, .int .i64 g.base, .int .i64 g.jitter, rv, sv, .int .i64 g.spread, .bool g.stamp] 55 (0, 0)) := LaysAs.exts (LaysAs.new w _) exq
  have hr0 : IsRow (fun t : Kr.Span => [.int .i64 t.lo, .int .i64 t.hi]) 2 (World.ext _ X2) (.slice (some ⟨w.heap.size + 1, 0, none⟩) 1 1) [⟨g.added, g.added⟩] := IsRow.mono (w := (w.alloc (.cells #[lv, .int .i64 g.added, .int .i64 g.base, .int .i64 g.jitter, rv, sv, .int .i64 g.spread, .bool g.stamp] 55)).alloc (.cells #[.int .i64 g.added, .int .i64 g.added] 28)) (one_span_row (w.alloc _) g.added (by simp)) exq
  have hrt0 : RowT 28 (World.ext _ X2) (.slice (some ⟨w.heap.size + 1, 0, none⟩) 1 1) := RowT.exts (W := (w.alloc (.cells #[lv, .int .i64 g.added, .int .i64 g.base, .int .i64 g.jitter, rv, sv, .int .i64 g.spread, .bool g.stamp] 55)).alloc (.cells #[.int .i64 g.added, .int .i64 g.added] 28)) (fun b hb => by simp [Value.ownBlock] at hb; subst hb; exact ⟨_, _, by have := LaysAs.new (w.alloc (.cells #[lv, .int .i64 g.added, .int .i64 g.base, .int .i64 g.jitter, rv, sv, .int .i64 g.spread, .bool g.stamp] 55)) (.cells #[.int .i64 g.added, .int .i64 g.added] 28); simpa [LaysAs] using this⟩) exq
  have hE0 : w.Exts (World.ext _ X2) := exq
  have hgu : World.grownBy (World.ext _ X2) (World.ext _ X2) (some (w.heap.size + 1 + 1)) := grown_exts (World.Exts.refl _)
  have hru := off_box hba HBU.out.row (fun x => ⟨_, rfl, by intro h; cases h⟩)
  have hul : (usedBay g.loads ts).length ≤ 4 := by have := usedBay_len g.loads ts ts.length; rw [List.take_length] at this; omega
  have hV : ∃ V, V = World.ext _ X2 := ⟨_, rfl⟩
  obtain ⟨V, hV⟩ := hV
  rw [← hV] at hba hbg hr0 hrt0 hE0 hgu hru HBU ⊢
  have hk0 : TotOk 0 [⟨g.added, g.added⟩] := ⟨⟨fun s hs => by rw [List.mem_singleton.1 hs]; exact Int.le_refl _, List.pairwise_singleton _ _⟩, fun s hs => by rw [List.mem_singleton.1 hs]; simp; omega⟩
  have hUm : ∀ x ∈ usedBay g.loads ts, x ∈ ts := fun x hx => (List.mem_filter.1 hx).1
  generalize usedBay g.loads ts = U at *
  have HBA := Lib.hid hba
  clear hba
  have HBG := Lib.hid hbg
  clear hbg
  have HR0 := Lib.hid hr0
  clear hr0
  have HRT0 := Lib.hid hrt0
  clear hrt0
  have HRU := Lib.hid hru
  clear hru
  have HK0 := Lib.hid hk0
  clear hk0
  have HUM := Lib.hid hUm
  clear hUm
  clear hV HBU
  go_loopw [20] (fun i wr => ∃ (k : Nat) (va : Value), k ≤ U.length ∧ i = .int .i64 k ∧ Hid (TotOk k (totalsL g.loads [⟨g.added, g.added⟩] ((U.map Prod.fst).take k))) ∧ Hid (LaysAs wr (w.heap.size + 1 + 1) (.cells #[va] 115 (0, 0))) ∧ Hid (IsRow (fun t : Kr.Span => [.int .i64 t.lo, .int .i64 t.hi]) 2 wr va (totalsL g.loads [⟨g.added, g.added⟩] ((U.map Prod.fst).take k))) ∧ Hid (RowT 28 wr va ∧ RowN w.heap.size va) ∧ w.Exts wr ∧ V.grownBy wr (some (w.heap.size + 1 + 1))) (fun i _ => U.length - (intOf i).toNat)
  case atStart => exact ⟨0, _, Nat.zero_le _, rfl, Lib.hid HK0.out, Lib.hid HBA.out, Lib.hid HR0.out, Lib.hid ⟨HRT0.out, fun b hb => by simp [Value.ownBlock] at hb; omega⟩, hE0, hgu⟩
  case round =>
    obtain ⟨k, va, hk, rfl, HT, HLA, HRA, HRAT, hE, hgr⟩ := hrel
    obtain ⟨pa, capa, hva⟩ := HRA.out.len
    generalize hall : totalsL g.loads [⟨g.added, g.added⟩] ((U.map Prod.fst).take k) = all at *
    subst hva
    have hru2 := HRU.out.grown hgr
    have hbg2 := HBG.out.grown hgr (by omega)
    have a0 := LaysAs.cell (cs := [.slice pa all.length capa]) HLA.out 0 _ rfl
    have hla := Lays.of_cell a0
    obtain ⟨X, rfl⟩ := hE
    by_cases hlt : k < U.length
    · obtain ⟨⟨s, tv⟩, hx⟩ := some_of_lt hlt
      obtain ⟨pu, bu, ou, cpu, e, hmu, hpu, hcu⟩ := hru2.row.ex
      cases e
      obtain ⟨rfl, hlu⟩ := hpu (by omega)
      have hcs := hcu k _ hx
      have c0 := hcs 0 _ rfl
      have c1 := hcs 1 _ rfl
      have c2 := hcs 2 _ rfl
      have c3 := hcs 3 _ rfl
      have c4 := hcs 4 _ rfl
      have c5 := hcs 5 _ rfl
      have c6 := hcs 6 _ rfl
      simp only [Nat.add_zero] at c0 c1 c2 c3 c4 c5 c6
      have hmem := HUM.out _ (List.mem_of_getElem? hx)
      have htx := HTR.out _ hmem
      dsimp only at htx
      obtain ⟨q1, cp1, rfl⟩ := htx.len
      have hrs := HOK.out _ hmem
      have hss := HSH.out _ hmem
      dsimp only at hrs hss
      have hs : (U.map Prod.fst)[k]? = some s := by rw [List.getElem?_map, hx]; rfl
      have hnx := totalsL_snoc (ls := g.loads) (all := [⟨g.added, g.added⟩]) hs
      rw [hall] at hnx
      have hts := (tot_step hrs h6 HT.out (by omega)).2
      rw [← hnx] at hts
      have HTX := Lib.hid htx
      clear htx
      have HRS := Lib.hid hrs
      clear hrs
      have HSS := Lib.hid hss
      clear hss
      have HNX := Lib.hid hnx
      clear hnx
      have HTS := Lib.hid hts
      clear hts
      have HBG2 := Lib.hid hbg2
      clear hbg2
      have HALL := Lib.hid hall
      clear hall
      clear hru2 hpu hcu hmem hcs hx hs
      go_wp2_with (go_at_call 90; refine (hall_totals_1_any s _ g _ _ _ all _ _ _ k _ (HTX.out.mono exq) HRS.out (HG.out.mono exq) h6 HSS.out (HRA.out.mono exq) HT.out (by omega) (HLA.out.exts exq) (HBG2.out.exts exq)).mono ?_; rintro e w' ⟨v', X3, rfl, rfl, hv', hvt', hvn'⟩; have HV := Lib.hid hv'; have HVT := Lib.hid hvt'; have HVN := Lib.hid hvn'; clear hv' hvt' hvn')
      have hE3 : (w.ext X).Exts (World.ext _ X3) := exq
      have hla3 : LaysAs (World.ext _ X3) (w.heap.size + 1 + 1) (.cells #[.slice pa all.length capa] 115 (0, 0)) := HLA.out.exts hE3
      have hrow3 := (off_box hla3 HV.out (fun x => ⟨_, rfl, by intro h; cases h⟩)).set (a := ⟨w.heap.size + 1 + 1, 0, none⟩) (by simp) v'
      have hgr3 := grown_trans hgr (grown_trans (grown_exts hE3) (grown_set _ (w.heap.size + 1 + 1) 0 v'))
      have hla4 := LaysAs.set (cs := [.slice pa all.length capa]) (i := 0) hla3 v'
      have HROW := Lib.hid hrow3
      clear hrow3
      have HLA4 := Lib.hid hla4
      clear hla4
      clear hla3
      go_wp2_with fail
      go_roundw
      case rel => exact ⟨k + 1, v', by omega, by go_num, Lib.hid HTS.out, Lib.hid HLA4.out, Lib.hid (by rw [HNX.out]; exact HROW.out.row), Lib.hid ⟨HVT.out.set _ _, HVN.out.le (World.Exts.size exq)⟩, exq, hgr3⟩
      case measure => simp [intOf]; omega
    · have hkn : k = U.length := by omega
      have hf := HFIN.out
      rw [← hkn, hall] at hf
      have HF := Lib.hid hf
      clear hf
      clear hkn hall hru2 hbg2
      go_wp2_with fail
      go_ret
      exact ⟨_, rfl, by rw [← HF.out]; exact HRA.out.mono exq, exq, HRAT.out.1.exts exq, HRAT.out.2⟩
end Go.Proofs.YtcickafaomfbmaaGreatDoor

/-
  Walks of package scale and of its reference: Totals, in whole.
-/
namespace Go.Proofs.YtcickafaomfbmaaGreatDoor
open Go.RowKit Kr
set_option linter.unusedSimpArgs false

structure AskOk (b : List Scale) (g : Gear) : Prop where
  few : b.length ≤ 4
  rt : ∀ s ∈ b, right s = true
  l6 : g.loads.length ≤ 6
  sh : ∀ s ∈ b, ∀ l ∈ g.loads, l.scale = s.id → -2000000 ≤ l.shown ∧ l.shown ≤ 2000000
  ad : 0 ≤ g.added ∧ g.added ≤ 1000000
theorem check_ok {b : List Scale} {g : Gear} (h1 : bayOk b = true) (h2 : gearOk b g = true) : AskOk b g := by
  have h3 := h2
  simp only [gearOk, Bool.and_eq_true, decide_eq_true_eq, List.all_eq_true] at h3
  have h4 := h1
  simp only [bayOk, Bool.and_eq_true, decide_eq_true_eq] at h4
  refine ⟨h4.2, bayFrom_right h4.1, h3.1.2, fun s _ l hl _ => ?_, (bare_bounds h3.2).1⟩
  have h5 := h3.1.1 l hl
  unfold loadOk at h5
  split at h5
  · simp [shownB, inb] at h5; omega
  · cases h5
theorem check_zero {b : List Scale} {g : Gear} (h : check b g = 0) : bayOk b = true ∧ gearOk b g = true := by
  unfold check at h
  cases h1 : bayOk b <;> rw [h1] at h
  · simp at h
  · cases h2 : gearOk b g <;> rw [h2] at h
    · simp at h
    · exact ⟨rfl, rfl⟩
theorem check_three (b : List Scale) (g : Gear) : check b g = 0 ∨ check b g = 41 ∨ check b g = 40 := by
  unfold check
  cases bayOk b
  · simp
  · cases gearOk b g <;> simp
end Go.Proofs.YtcickafaomfbmaaGreatDoor

/-
  Walks of the reference: Truth, and what it asks.
-/
namespace Go.Proofs.YtcickafaomfbmaaGreatDoor
open Go.RowKit Kr
set_option linter.unusedSimpArgs false

end Go.Proofs.YtcickafaomfbmaaGreatDoor
