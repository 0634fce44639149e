/-
  Several texts in one: see the heads of its parts.
-/

import Derived.Test.YtcickafaomfbmaaGreatDoorZSBksIr
import Derived.Test.YtcickafaomfbmaaGreatDoorZSBksIgK
import Derived.Test.YtcickafaomfbmaaGreatDoorZSBksGRq
import Derived.BigRegion
import Derived.Shelf.RegionOpen
/-
  Walks of package ice: the iterator over how thick a stretch is.
-/
namespace Go.Proofs.YtcickafaomfbmaaGreatDoor
open Go.RowKit Go.Shelf Kr
set_option linter.unusedSimpArgs false
set_option linter.unusedVariables false

theorem abidesT_exts {β : Type} {T : TypeId} {B : Nat} {J : β → World → Prop} (h : AbidesT T B J) {s : β} {A W : World} (hJ : J s A) (hE : A.Exts W) : J s W := by
  have hb := hE.below
  exact h s A W none hJ ⟨hb.os, hb.tape, hb.output, hb.size, fun k hk _ => hb.block k hk⟩ (fun r e => by cases e)
theorem grownBy_put (W : World) (b i : Nat) (v : Value) : W.grownBy (W.setCell ⟨b, i, none⟩ v) (some b) :=
  ⟨rfl, rfl, rfl, by simp, fun k _ hk => World.heap_set_other _ _ _ (fun e => hk (by rw [e]))⟩
theorem abidesT_set {β : Type} {T : TypeId} {B b i : Nat} {J : β → World → Prop} (h : AbidesT T B J) {s : β} {W : World} {cs : Array Value} {fr : Nat × Nat} (hJ : J s W) (hl : LaysAs W b (.cells cs T fr)) (hb : B ≤ b) (v : Value) : J s (W.setCell ⟨b, i, none⟩ v) :=
  h s W _ (some b) hJ (grownBy_put W b i v) (fun r e => by cases e; exact ⟨hb, _, hl, .inr ⟨_, _, rfl⟩⟩)
theorem abidesT_put2 {β : Type} {T : TypeId} {B b : Nat} {J : β → World → Prop} (h : AbidesT T B J) {s : β} {W : World} {u0 u1 v0 v1 : Value} (hJ : J s W) (hl : LaysAs W b (.cells [u0, u1].toArray T (0, 0))) (hb : B ≤ b) : J s ((W.setCell ⟨b, 0, none⟩ v0).setCell ⟨b, 1, none⟩ v1) :=
  abidesT_set h (abidesT_set h hJ hl hb v0) (LaysAs.set (cs := [u0, u1]) hl (i := 0) v0) hb v1

/-- What a round over the hours keeps: all that lies in u, and all cells but one block and but cells of type T0. -/
def KeepsT (u : World) (f : Nat) (T0 : TypeId) (W W' : World) : Prop := Below u.heap.size W W' ∧ ∀ k cs t fr, k ≠ f → t ≠ T0 → W.heap[k]? = some (.cells cs t fr) → W'.heap[k]? = some (.cells cs t fr)
theorem KeepsT.trans {u : World} {f : Nat} {T0 : TypeId} {A B C : World} (h : KeepsT u f T0 A B) (k : KeepsT u f T0 B C) : KeepsT u f T0 A C := ⟨h.1.trans k.1, fun j cs t fr h1 h2 h3 => k.2 j cs t fr h1 h2 (h.2 j cs t fr h1 h2 h3)⟩
theorem KeepsT.of_exts {u : World} {f : Nat} {T0 : TypeId} {W W' : World} (hu : u.heap.size ≤ W.heap.size) (h : W.Exts W') : KeepsT u f T0 W W' := ⟨h.below.mono hu, fun k cs t fr _ _ h3 => (h.below.block k (Array.getElem?_eq_some_iff.1 h3).1).trans h3⟩
theorem KeepsT.put {u : World} {f : Nat} {T0 : TypeId} (W : World) (l : Nat) (o o' : Obj) (hl : u.heap.size ≤ l) (ho : W.heap[l]? = some o) (h1 : o.isCells = false) : KeepsT u f T0 W (W.putObj l o') :=
  ⟨⟨rfl, rfl, rfl, by simp, fun k hk => World.putObj_heap_other (by omega)⟩, fun k cs t fr _ _ h3 => (World.putObj_heap_other (fun e => by subst e; rw [ho] at h3; cases h3; cases h1)).trans h3⟩
theorem KeepsT.lays {u : World} {f b : Nat} {T0 t : TypeId} {W W' : World} {cs : Array Value} {fr : Nat × Nat} (h : KeepsT u f T0 W W') (hl : LaysAs W b (.cells cs t fr)) (hf : b ≠ f) (ht : t ≠ T0) : LaysAs W' b (.cells cs t fr) := h.2 b cs t fr hf ht hl

theorem laysAs_put_other {W : World} {b b5 : Nat} {ob : Obj} (h : LaysAs W b ob) (hne : b ≠ b5) (v0 v1 : Value) : LaysAs ((W.setCell ⟨b5, 0, none⟩ v0).setCell ⟨b5, 1, none⟩ v1) b ob := by
  unfold LaysAs at *
  rw [World.heap_set_other _ _ _ hne, World.heap_set_other _ _ _ hne]
  exact h
theorem lays_apart {W : World} {b b' : Nat} {cs ds : Array Value} {t t' : TypeId} (h : LaysAs W b (.cells cs t (0, 0))) (h' : LaysAs W b' (.cells ds t' (0, 0))) (ht : t ≠ t') : b ≠ b' := fun e => by
  subst e
  unfold LaysAs at h h'
  rw [h] at h'
  cases h'
  exact ht rfl
/-- The boxes of the iterator, and the box of what it tells. -/
structure DaysAt (W : World) (rb bR bI bP b5 i : Nat) (pv : Value) (t : Kr.Span) : Prop where
  r : LaysAs W bR (.cells [.pointer (some ⟨rb, 0, none⟩)].toArray 101 (0, 0))
  s : LaysAs W bI (.cells [.int .i64 i].toArray 3 (0, 0))
  p : LaysAs W bP (.cells [pv].toArray 31 (0, 0))
  t : LaysAs W b5 (.cells [.int .i64 t.lo, .int .i64 t.hi].toArray 28 (0, 0))
theorem DaysAt.exts {W W' : World} {rb bR bI bP b5 i : Nat} {pv : Value} {t : Kr.Span} (h : DaysAt W rb bR bI bP b5 i pv t) (hE : W.Exts W') : DaysAt W' rb bR bI bP b5 i pv t := ⟨h.r.exts hE, h.s.exts hE, h.p.exts hE, h.t.exts hE⟩
theorem DaysAt.keeps {u W W' : World} {f rb bR bI bP b5 i : Nat} {pv : Value} {t : Kr.Span} (h : DaysAt W rb bR bI bP b5 i pv t) (hK : KeepsT u f 171 W W') (h1 : bR ≠ f) (h2 : bI ≠ f) (h3 : bP ≠ f) (h4 : b5 ≠ f) : DaysAt W' rb bR bI bP b5 i pv t :=
  ⟨hK.lays h.r h1 (by decide), hK.lays h.s h2 (by decide), hK.lays h.p h3 (by decide), hK.lays h.t h4 (by decide)⟩
theorem DaysAt.put {W : World} {rb bR bI bP b5 i : Nat} {pv : Value} {t : Kr.Span} (h : DaysAt W rb bR bI bP b5 i pv t) (t' : Kr.Span) : DaysAt ((W.setCell ⟨b5, 0, none⟩ (.int .i64 t'.lo)).setCell ⟨b5, 1, none⟩ (.int .i64 t'.hi)) rb bR bI bP b5 i pv t' :=
  ⟨laysAs_put_other h.r (lays_apart h.r h.t (by decide)) _ _, laysAs_put_other h.s (lays_apart h.s h.t (by decide)) _ _, laysAs_put_other h.p (lays_apart h.p h.t (by decide)) _ _, laysAs_put2 h.t⟩

/-- An hour of a cover, its end among them. -/
abbrev HourB (c : Kr.Cover) := { h : Nat // h ≤ c.hours.length }
def encD (c : Kr.Cover) (plan : List (List Int)) (i : Nat) (x : HourB c) : Array Value := #[.int .i64 (x.1 : Int), .agg #[.int .i64 (thickAt c plan i x.1).lo, .int .i64 (thickAt c plan i x.1).hi]]

theorem rink_days_any (p : Option Addr) (pv : Value) (i : Nat) (w : World) (hpv : ∃ q m cp, pv = .slice q m cp) :
    Calls Tryz.prog 39 #[.pointer p, pv, .int .i64 i] w fun e w' => e = .returned (.func (.func 84) #[] #[.pointer (some ⟨w.heap.size, 0, none⟩), .pointer (some ⟨w.heap.size + 1 + 1, 0, none⟩), .pointer (some ⟨w.heap.size + 1, 0, none⟩)]) ∧ w' = ((w.alloc (.cells #[.pointer p] 101)).alloc (.cells #[pv] 31)).alloc (.cells #[.int .i64 i] 3) := by
  obtain ⟨q, m, cp, rfl⟩ := hpv
  go_enter Tryz.func39, Tryz.ntmps39
  go_wp2_with fail
  go_ret
  exact ⟨rfl, rfl⟩

attribute [local go_sem] Oper.semAt_some
set_option maxRecDepth 100000 in
set_option maxHeartbeats 4000000 in
theorem rink_days_1_stops (n : Nat) (rb bR bI bP f : Nat) (T0 : TypeId) (c : Kr.Cover) (v : CoverV) (ps : List (List Int × Value)) (pv : Value) (i : Nat) (u w : World) (hu : u.Exts w) (h : CoverAt u c v) (hp : ListsAt u pv ps) (hrk : LaysAs u rb (.cells #[v.t, v.b, v.h, .int .i64 c.wear.lo, .int .i64 c.wear.hi, .int .i64 c.layer.lo, .int .i64 c.layer.hi, .int .i64 c.rate, .int .i64 c.limit, .int .i64 c.base] 156))
    (hbR : LaysAs w bR (.cells [.pointer (some ⟨rb, 0, none⟩)].toArray 101 (0, 0))) (hbI : LaysAs w bI (.cells [.int .i64 i].toArray 3 (0, 0))) (hbP : LaysAs w bP (.cells [pv].toArray 31 (0, 0)))
    (hfR : bR ≠ f) (hfI : bI ≠ f) (hfP : bP ≠ f) (hfw : f < w.heap.size) (hT0 : T0 = 171)
    (hf : CoverFacts c) (hi : i < c.beds.length) (hpl : ps.length = c.hours.length) (hpf : ∀ x ∈ ps, x.1.length ≤ 1000) :
    SeqStopsT 28 Fence.wide n Tryz.prog 84 #[.pointer (some ⟨bR, 0, none⟩), .pointer (some ⟨bI, 0, none⟩), .pointer (some ⟨bP, 0, none⟩)] (encD c (ps.map Prod.fst) i) (KeepsT u f T0) (fun xs => xs.map Subtype.val = List.range (c.hours.length + 1)) (fun _ => True) 13 w := by
  intro l J Jx W hW hJ hJx hY hJ0
  have hEu : u.Exts W := hu.trans (.of hW)
  have hbR := (show LaysAs W bR _ from (hW.block bR hbR.lt).trans hbR)
  have hbI := (show LaysAs W bI _ from (hW.block bI hbI.lt).trans hbI)
  have hbP := (show LaysAs W bP _ from (hW.block bP hbP.lt).trans hbP)
  have hfW : f < W.heap.size := Nat.lt_of_lt_of_le hfw hW.size
  obtain ⟨X0, hX0⟩ := hEu
  subst hX0
  subst hT0
  have hlossR := fun (k : Nat) (hk : k < c.hours.length) (W : World) (hE : u.Exts W) => rink_loss_any rb c v i k W (h.mono hE) (hrk.exts hE) hf hi hk
  obtain ⟨vt, vb, vh⟩ := v
  obtain ⟨qt, ct, hqt⟩ := h.tr.len
  obtain ⟨qb, cb, hqb⟩ := h.bd.len
  obtain ⟨qh, ch, hqh⟩ := h.hr.len
  dsimp only at hqt hqb hqh
  subst hqt hqb hqh
  have hbd := h.bd
  clear h
  obtain ⟨_, bb, bo, _, ebb, hbm, hbq, hbc⟩ := hbd.ex
  cases ebb
  obtain ⟨rfl, hlay⟩ := hbq (by omega)
  obtain ⟨b, hb1⟩ := some_of_lt hi
  have hcs := hbc i b hb1
  have c0 := hcs 0 _ rfl
  have c1 := hcs 1 _ rfl
  simp only [Nat.add_zero] at c0
  obtain ⟨qp, pb, po, cp, rfl, hpm, hpq, hpc⟩ := hp.row.ex
  have hpmem := hp.mem
  have h0 : thickAt c (ps.map Prod.fst) i 0 = b.thick := by unfold thickAt; rw [getD_of hb1]
  have htb := fun k (hk : k ≤ c.hours.length) => thickAt_bd hf (ps.map Prod.fst) hi (h := k) hk
  have hlb := fun k (hk : k < c.hours.length) => lossAt_bd hf hi (h := k) hk
  have hn8 := hf.hours.2
  obtain ⟨hy1, hy2, hy3⟩ := hf.layer
  have w1 : (i : Int) < (c.beds.length : Int) := by omega
  have r1 := LaysAs.cell hrk 1 _ rfl
  have r2 := LaysAs.cell hrk 2 _ rfl
  have r5 := LaysAs.cell hrk 5 _ rfl
  have r6 := LaysAs.cell hrk 6 _ rfl
  have nr := Lays.of_cell r1
  have a0 := LaysAs.cell hbR 0 _ rfl
  have a1 := LaysAs.cell hbI 0 _ rfl
  have a2 := LaysAs.cell hbP 0 _ rfl
  have na0 := Lays.of_cell a0
  have na1 := Lays.of_cell a1
  have na2 := Lays.of_cell a2
  dsimp only at hlossR r1 r2 r5 r6 a2
  clear hbd hb1 hcs hbc hp hf hbm hbq hu hW hJx
  have HBR := Lib.hid hbR
  clear hbR
  have HBI := Lib.hid hbI
  clear hbI
  have HBP := Lib.hid hbP
  clear hbP
  have HRK := Lib.hid hrk
  clear hrk
  have HLOSS := Lib.hid hlossR
  clear hlossR
  have HPQ := Lib.hid hpq
  clear hpq
  have HPC := Lib.hid hpc
  clear hpc
  have HPM := Lib.hid hpmem
  clear hpmem
  have HPF := Lib.hid hpf
  clear hpf
  have H0 := Lib.hid h0
  clear h0
  have HTB := Lib.hid htb
  clear htb
  have HLB := Lib.hid hlb
  clear hlb
  have HPL := Lib.hid hpl
  clear hpl
  have HY := Lib.hid hY
  clear hY
  have HJA := Lib.hid hJ
  clear hJ
  have HJ0 := Lib.hid hJ0
  clear hJ0
  show CallsIn Fence.wide n Tryz.prog 84 #[.func (.yield l) #[] #[], .pointer (some ⟨bR, 0, none⟩), .pointer (some ⟨bI, 0, none⟩), .pointer (some ⟨bP, 0, none⟩)] _ _
  refine callsIn_of_wp Tryz.func84 rfl trivial ?_ rfl
  simp only [Tryz.ntmps84, List.size_toArray, List.length_cons, List.length_nil, Nat.reduceAdd, Nat.reduceSub, Array.replicate_succ, Array.replicate_zero, List.push_toArray, List.append_toArray, List.nil_append, List.cons_append]
  gi_wp2
  refine wpIn_wide.2 ?_
  go_big_region
  gi_wp2
  gi_loopw [6, 23] (fun _ t wr => ∃ (k : Nat) (pre : List (HourB c)), k ≤ c.hours.length ∧ t = .int .i64 k ∧ Hid (pre.map Subtype.val = List.range k) ∧ u.Exts wr ∧ Hid (DaysAt wr rb bR bI bP (u.ext X0).heap.size i (.slice qp ps.length cp) (thickAt c (ps.map Prod.fst) i k)) ∧ Hid (J pre wr)) (fun _ t _ => c.hours.length - (intOf t).toNat)
  case atStart =>
    exact ⟨0, [], Nat.zero_le _, rfl, rfl, exq, Lib.hid ⟨HBR.out.exts exq, HBI.out.exts exq, HBP.out.exts exq, by rw [H0.out]; exact laysAs_size _ _ rfl⟩, Lib.hid (abidesT_exts HJA.out HJ0.out exq)⟩
  case round =>
    obtain ⟨k, pre, hk, rfl, HPRE, hE, HD, HJ⟩ := hrel
    clear a0 a1 a2 na0 na1 na2
    obtain ⟨X, rfl⟩ := hE
    have a0 := LaysAs.cell HD.out.r 0 _ rfl
    have a1 := LaysAs.cell HD.out.s 0 _ rfl
    have a2 := LaysAs.cell HD.out.p 0 _ rfl
    have d0 := LaysAs.cell HD.out.t 0 _ rfl
    have d1 := LaysAs.cell HD.out.t 1 _ rfl
    have na0 := Lays.of_cell a0
    have na1 := Lays.of_cell a1
    have na2 := Lays.of_cell a2
    have nd := Lays.of_cell d0
    have hlen : pre.length = k := by
      have h1 := congrArg List.length HPRE.out
      rwa [List.length_map, List.length_range] at h1
    rcases Nat.lt_or_ge k c.hours.length with hlt | hge
    · obtain ⟨fn, tmps, assign, body, hy, hR⟩ := HY.out pre ⟨k, hk⟩ _ HJ.out (by omega)
      dsimp only [encD] at hy
      clear hlen
      gi_wp2
      refine ⟨fun e => (by cases e), hR.mono ?_⟩
      clear hR
      rintro e W3 (⟨rfl, hJ3, hk3⟩ | ⟨rfl, hJx3⟩)
      · have hE3 : u.Exts W3 := .of ((World.Exts.below (w := u) (w' := u.ext X) exq).trans hk3.1)
        have hD3 := HD.out.keeps hk3 hfR hfI hfP (by omega)
        clear hk3 a0 a1 a2 d0 d1 na0 na1 na2 nd HD HJ
        obtain ⟨X3, rfl⟩ := hE3
        have a0 := LaysAs.cell hD3.r 0 _ rfl
        have a1 := LaysAs.cell hD3.s 0 _ rfl
        have a2 := LaysAs.cell hD3.p 0 _ rfl
        have d0 := LaysAs.cell hD3.t 0 _ rfl
        have d1 := LaysAs.cell hD3.t 1 _ rfl
        have na0 := Lays.of_cell a0
        have na1 := Lays.of_cell a1
        have na2 := Lays.of_cell a2
        have nd := Lays.of_cell d0
        have f0 := laysAs_frz (i := 0) hD3.t
        have f1 := laysAs_frz (i := 1) hD3.t
        have ap1 : Differ bR (u.ext X0).heap.size := ⟨lays_apart hD3.r hD3.t (by decide)⟩
        have ap2 : Differ bI (u.ext X0).heap.size := ⟨lays_apart hD3.s hD3.t (by decide)⟩
        have ap3 : Differ bP (u.ext X0).heap.size := ⟨lays_apart hD3.p hD3.t (by decide)⟩
        have ap4 : Differ (u.ext X0).heap.size bR := ⟨fun e => ap1.ne e.symm⟩
        have ap5 : Differ (u.ext X0).heap.size bI := ⟨fun e => ap2.ne e.symm⟩
        have ap6 : Differ (u.ext X0).heap.size bP := ⟨fun e => ap3.ne e.symm⟩
        obtain ⟨rfl, hlay2⟩ := HPQ.out (by have := HPL.out; omega)
        obtain ⟨⟨l, lv⟩, hx⟩ := some_of_lt (show k < ps.length by have := HPL.out; omega)
        have p0 := HPC.out k _ hx 0 _ rfl
        simp only [Nat.mul_one, Nat.add_zero] at p0
        have hrow := HPM.out _ (List.mem_of_getElem? hx)
        have hlf := HPF.out _ (List.mem_of_getElem? hx)
        dsimp only at hrow hlf
        obtain ⟨ql, lc, rfl⟩ := hrow.len
        obtain ⟨sp, hsp⟩ : ∃ z, (l.any fun y => y == (i : Int)) = z := ⟨_, rfl⟩
        have hspr : sprayed (ps.map Prod.fst) k i = sp := by
          unfold sprayed
          rw [getD_of (show (ps.map Prod.fst)[k]? = some l by rw [List.getElem?_map, hx]; rfl), hsp]
        have hnext := thickAt_succ c (ps.map Prod.fst) i k
        rw [hspr] at hnext
        have hLk := HLOSS.out k hlt
        have hb1 := HTB.out k hk
        have hb2 := HLB.out k hlt
        obtain ⟨⟨tlo, thi⟩, hT⟩ : ∃ z, thickAt c (ps.map Prod.fst) i k = z := ⟨_, rfl⟩
        obtain ⟨⟨llo, lhi⟩, hLo⟩ : ∃ z, lossAt c i k = z := ⟨_, rfl⟩
        rw [hT] at hnext hb1 d0 d1 hD3
        rw [hLo] at hnext hLk hb2
        dsimp only at hb1 hb2 d0 d1 hLk
        obtain ⟨q1, q2, q3, q4⟩ := hb1
        obtain ⟨q5, q6, q7, q8⟩ := hb2
        have w2 : (k : Int) < (ps.length : Int) := by have := HPL.out; omega
        have HSP := Lib.hid hsp
        clear hsp
        have HNEXT := Lib.hid hnext
        clear hnext
        have HROW := Lib.hid hrow
        clear hrow
        have HLK := Lib.hid hLk
        clear hLk
        have HD3 := Lib.hid hD3
        clear hD3
        have HJ3 := Lib.hid hJ3
        clear hJ3
        clear hx hspr hT hLo hy
        cases sp
        · gi_wp2_with (refine ⟨trivial, fun e => (by cases e), ?_⟩; gi_at_call 85; refine (callsIn_wide.2 (HLK.out _ exq)).mono ?_; rintro e w' ⟨rfl, X1, rfl⟩)
          have hD4 := (HD3.out.exts (W' := ((u.ext X3).ext X1).alloc (.cells #[.int .i64 llo, .int .i64 lhi] 28)) exq).put ⟨max 0 (tlo - lhi), max 0 (thi - llo)⟩
          have hJ4 := abidesT_put2 HJA.out (abidesT_exts HJA.out HJ3.out (W := ((u.ext X3).ext X1).alloc (.cells #[.int .i64 llo, .int .i64 lhi] 28)) exq) (HD3.out.exts exq).t (Nat.le_refl _) (v0 := .int .i64 (max 0 (tlo - lhi))) (v1 := .int .i64 (max 0 (thi - llo)))
          have hE4 : u.Exts (((((u.ext X3).ext X1).alloc (.cells #[.int .i64 llo, .int .i64 lhi] 28)).setCell ⟨(u.ext X0).heap.size, 0, none⟩ (.int .i64 (max 0 (tlo - lhi)))).setCell ⟨(u.ext X0).heap.size, 1, none⟩ (.int .i64 (max 0 (thi - llo)))) := exq
          clear a0 a1 a2 d0 d1 na0 na1 na2 nd f0 f1 ap1 ap2 ap3 ap4 ap5 ap6
          dsimp only at hD4
          obtain ⟨X4, hX4⟩ := hE4
          rw [hX4] at hD4 hJ4 ⊢
          clear hX4 HD3 HJ3
          have a0 := LaysAs.cell hD4.r 0 _ rfl
          have a1 := LaysAs.cell hD4.s 0 _ rfl
          have a2 := LaysAs.cell hD4.p 0 _ rfl
          have d0 := LaysAs.cell hD4.t 0 _ rfl
          have d1 := LaysAs.cell hD4.t 1 _ rfl
          have na0 := Lays.of_cell a0
          have na1 := Lays.of_cell a1
          have na2 := Lays.of_cell a2
          have nd := Lays.of_cell d0
          have f0 := laysAs_frz (i := 0) hD4.t
          have f1 := laysAs_frz (i := 1) hD4.t
          dsimp only at d0 d1
          have HD4 := Lib.hid hD4
          clear hD4
          have HJ4 := Lib.hid hJ4
          clear hJ4
          refine wpIn_wide.2 ?_
          refine wp_region_ext (by kernel_rfl) (by kernel_rfl) ?_
          repeat (go_big_quiet_step ((go_at_call 26; exact Calls.in_ext_eq (Contains_int_any l (i : Int) _ _ (HROW.out.mono exq)) (congrArg Value.bool HSP.out))))
          refine wpQuiet_nil ?_
          rintro _ ⟨X, rfl⟩
          gi_wp2
          go_roundw
          case rel => exact ⟨k + 1, pre ++ [⟨k, hk⟩], by omega, by go_num, Lib.hid (by rw [List.map_append, HPRE.out, List.range_succ]; rfl), exq, Lib.hid (by rw [HNEXT.out]; exact HD4.out.exts ⟨X, rfl⟩), Lib.hid (abidesT_exts HJA.out HJ4.out ⟨X, rfl⟩)⟩
          case measure => simp [intOf]; omega
        · gi_wp2_with (refine ⟨trivial, fun e => (by cases e), ?_⟩; gi_at_call 85; refine (callsIn_wide.2 (HLK.out _ exq)).mono ?_; rintro e w' ⟨rfl, X1, rfl⟩)
          have hD4 := (HD3.out.exts (W' := ((u.ext X3).ext X1).alloc (.cells #[.int .i64 llo, .int .i64 lhi] 28)) exq).put ⟨max 0 (tlo - lhi), max 0 (thi - llo)⟩
          have hJ4 := abidesT_put2 HJA.out (abidesT_exts HJA.out HJ3.out (W := ((u.ext X3).ext X1).alloc (.cells #[.int .i64 llo, .int .i64 lhi] 28)) exq) (HD3.out.exts exq).t (Nat.le_refl _) (v0 := .int .i64 (max 0 (tlo - lhi))) (v1 := .int .i64 (max 0 (thi - llo)))
          have hE4 : u.Exts (((((u.ext X3).ext X1).alloc (.cells #[.int .i64 llo, .int .i64 lhi] 28)).setCell ⟨(u.ext X0).heap.size, 0, none⟩ (.int .i64 (max 0 (tlo - lhi)))).setCell ⟨(u.ext X0).heap.size, 1, none⟩ (.int .i64 (max 0 (thi - llo)))) := exq
          clear a0 a1 a2 d0 d1 na0 na1 na2 nd f0 f1 ap1 ap2 ap3 ap4 ap5 ap6
          dsimp only at hD4
          obtain ⟨X4, hX4⟩ := hE4
          rw [hX4] at hD4 hJ4 ⊢
          clear hX4 HD3 HJ3
          have a0 := LaysAs.cell hD4.r 0 _ rfl
          have a1 := LaysAs.cell hD4.s 0 _ rfl
          have a2 := LaysAs.cell hD4.p 0 _ rfl
          have d0 := LaysAs.cell hD4.t 0 _ rfl
          have d1 := LaysAs.cell hD4.t 1 _ rfl
          have na0 := Lays.of_cell a0
          have na1 := Lays.of_cell a1
          have na2 := Lays.of_cell a2
          have nd := Lays.of_cell d0
          have f0 := laysAs_frz (i := 0) hD4.t
          have f1 := laysAs_frz (i := 1) hD4.t
          dsimp only at d0 d1
          have HD4 := Lib.hid hD4
          clear hD4
          have HJ4 := Lib.hid hJ4
          clear hJ4
          refine wpIn_wide.2 ?_
          refine wp_region_ext (by kernel_rfl) (by kernel_rfl) ?_
          repeat (go_big_quiet_step ((go_at_call 26; exact Calls.in_ext_eq (Contains_int_any l (i : Int) _ _ (HROW.out.mono exq)) (congrArg Value.bool HSP.out))))
          refine wpQuiet_nil ?_
          rintro _ ⟨X, rfl⟩
          gi_wp2
          refine wpIn_wide.2 ?_
          refine wp_region_ext_tail 19 (by kernel_rfl) (by kernel_rfl) ?_
          simp only [List.take_succ_cons, List.take_zero, List.drop_succ_cons, List.drop_zero]
          repeat (go_big_quiet_step (fail))
          refine wpQuiet_nil ?_
          rintro _ ⟨X, rfl⟩
          go_wp2_with fail
          gi_wp2
          go_roundw
          case rel => exact ⟨k + 1, pre ++ [⟨k, hk⟩], by omega, by go_num, Lib.hid (by rw [List.map_append, HPRE.out, List.range_succ]; rfl), exq, Lib.hid (by rw [HNEXT.out]; exact (HD4.out.exts exq).put ⟨max 0 (tlo - lhi) + c.layer.lo, max 0 (thi - llo) + c.layer.hi⟩), Lib.hid (abidesT_put2 HJA.out (abidesT_exts HJA.out HJ4.out exq) (HD4.out.exts exq).t (Nat.le_refl _))⟩
          case measure => simp [intOf]; omega
      · gi_wp2
        refine bodyPost_ret (results_none rfl _ _ _) rfl ?_
        exact ⟨⟨_, rfl⟩, .inr ⟨_, trivial, hJx3⟩⟩
    · have hnl : ¬ k < c.hours.length := by omega
      have hkn : k = c.hours.length := by omega
      subst hkn
      obtain ⟨fn, tmps, assign, body, hy, hR⟩ := HY.out pre ⟨c.hours.length, hk⟩ ((u.ext X).drew) (abidesT_exts HJA.out HJ.out exq) (by omega)
      dsimp only [encD] at hy
      clear hge hnl hlen
      have hmix : (Tryz.prog).follows .mixedOrders = true := by kernel_rfl
      gi_wp2
      have hR2 := hR.mono (fun e W' (hh : (e = .returned (.bool true) ∧ J (pre ++ [⟨c.hours.length, hk⟩]) W' ∧ KeepsT u f 171 (u.ext X).drew W') ∨ (e = .returned (.bool false) ∧ Jx (pre ++ [⟨c.hours.length, hk⟩]) W')) => (show ∃ bb, e = .returned (.bool bb) ∧ (J (pre ++ [⟨c.hours.length, hk⟩]) W' ∨ Jx (pre ++ [⟨c.hours.length, hk⟩]) W') from by
        rcases hh with ⟨rfl, h1, -⟩ | ⟨rfl, h1⟩
        · exact ⟨_, rfl, .inl h1⟩
        · exact ⟨_, rfl, .inr h1⟩))
      gi_region_with_o (refine ⟨fun e => (by cases e), hR2.mono ?_⟩; rintro e W3 ⟨bb, rfl, hfin⟩)
      all_goals gi_wp2
      all_goals
        go_end0
        rcases hfin with h1 | h1
        · exact ⟨⟨_, rfl⟩, .inl ⟨pre ++ [⟨c.hours.length, hk⟩], by rw [List.map_append, HPRE.out, List.range_succ]; rfl, h1⟩⟩
        · exact ⟨⟨_, rfl⟩, .inr ⟨_, trivial, h1⟩⟩
end Go.Proofs.YtcickafaomfbmaaGreatDoor

/-
  Walks of package ice: Thick: a range over the iterator that is left by a break.
-/
namespace Go.Proofs.YtcickafaomfbmaaGreatDoor
open Go.RowKit Go.Shelf Kr
set_option linter.unusedSimpArgs false
set_option linter.unusedVariables false

attribute [local go_sem] Oper.semAt_some

theorem below_grown {V W W' : World} {row : Option Nat} (h : Below V.heap.size V W) (hg : W.grownBy W' row) (hr : ∀ r, row = some r → V.heap.size ≤ r) : Below V.heap.size V W' :=
  h.trans ⟨hg.os, hg.tape, hg.output, hg.size, fun k hk => hg.block k (Nat.lt_of_lt_of_le hk h.size) (fun e => by have := hr k e.symm; omega)⟩
theorem block_grown {B f : Nat} {W W' : World} {row : Option Nat} {o : Obj} (h : W.heap[f]? = some o) (hf : f < B) (hg : W.grownBy W' row) (hr : ∀ r, row = some r → B ≤ r) : W'.heap[f]? = some o :=
  (hg.block f (Array.getElem?_eq_some_iff.1 h).1 (fun e => by have := hr f e.symm; omega)).trans h

/-- The same law, for two loop variables, the second in a box of its own. -/
theorem wpIn_range_turns2 {α : Type} {n : Nat} {P : Program} {g : Operand} {p1 p2 : Tmp} {assign body : Code} {Q : Exit → Act → World → Prop} {a : Act} {w : World} (T : TypeId) (h1 : 1 ≤ n) {gf : Nat} {lb : Array Value} (hg : a.eval g = .func (.func gf) #[] lb) (eg : ∀ args w, (callFunc gf args).run P w = .ok (.enter gf args) w)
    {encs : α → Array Value} {e1 e2 : α → Value} (henc : ∀ x, encs x = #[e1 x, e2 x]) {Kp : World → World → Prop} {S Sp : List α → Prop} {N : Nat} (hseq : SeqStopsT T Fence.wide (n - 1) P gf lb encs Kp S Sp N w)
    (hKt : ∀ {A B C : World}, Kp A B → Kp B C → Kp A C) (hKb : ∀ (W : World) (l : Nat) (o o' : Obj), w.heap.size ≤ l → W.heap[l]? = some o → o.isCells = false → o.isWalk = false → Kp W (W.putObj l o'))
    (I : List α → World → Prop) (Ix : Code → List α → World → Prop) (hI : OwnT T w.heap.size I) (hIx : ∀ c, OwnT T w.heap.size (Ix c)) (h0 : I [] w) (d bx : Nat) (cs : α → List Value)
    (hassign : ∀ (l : Nat) (pre : List α) (x : α) (W : World) (K : Act → World → Prop), I pre W → (∀ Bx W', KeepsFrom w.heap.size W W' → Kp W W' → I pre W' → w.heap.size ≤ Bx → W'.heap[Bx]? = some (.cells (cs x).toArray T (0, 0)) → K (Act.put (Act.put { tmps := (a.tmps.setIfInBounds p1 (e1 x)).setIfInBounds p2 (e2 x), defers := [] } (some d) (e1 x)) (some bx) (.pointer (some ⟨Bx, 0, none⟩))) W') →
      assign.wpIn (Fence.wide.inRound l) (n - 1 - 1) P (Exit.then K (fun _ _ _ => False)) { tmps := (a.tmps.setIfInBounds p1 (e1 x)).setIfInBounds p2 (e2 x), defers := [] } W)
    (hbody : ∀ (l : Nat) (pre : List α) (x : α) (Bx : Nat) (W : World), w.heap.size ≤ l → I pre W → w.heap.size ≤ Bx → W.heap[Bx]? = some (.cells (cs x).toArray T (0, 0)) → pre.length < N →
      body.wpIn (Fence.wide.inRound l) (n - 1 - 1) P (ownPostG w.heap.size Kp I Ix (pre ++ [x]) W) (Act.put (Act.put { tmps := (a.tmps.setIfInBounds p1 (e1 x)).setIfInBounds p2 (e2 x), defers := [] } (some d) (e1 x)) (some bx) (.pointer (some ⟨Bx, 0, none⟩))) W)
    (hdone : ∀ (D : Nat) (xs : List α) (W : World), w.heap.size ≤ D → S xs → I xs W → W.heap[D]? = some (.deferred (some [])) → Q .normal { a with defers := { target := .collected D, args := #[] } :: a.defers } W)
    (hstop : ∀ (D : Nat) (c : Code) (pre : List α) (W : World), w.heap.size ≤ D → Sp pre → Ix c pre W → W.heap[D]? = some (.deferred (some [])) → c.wpIn Fence.wide n P Q { a with defers := { target := .collected D, args := #[] } :: a.defers } W) :
    (Code.rangeFunc g #[p1, p2] assign body).wpIn Fence.wide n P Q a w := by
  have hz : ∀ (x : α) (t : Array Value), ((#[p1, p2] : Array Tmp).zip (encs x)).foldl (fun t (p, v) => t.setIfInBounds p v) t = (t.setIfInBounds p1 (e1 x)).setIfInBounds p2 (e2 x) := fun x t => by rw [henc]; simp
  refine wpIn_range_turns T rfl h1 hg trivial eg hseq (fun x => by rw [henc]; rfl) hKt hKb I Ix hI hIx h0
    (fun x a' W => ∃ Bx, w.heap.size ≤ Bx ∧ W.heap[Bx]? = some (.cells (cs x).toArray T (0, 0)) ∧ a' = Act.put (Act.put { tmps := (a.tmps.setIfInBounds p1 (e1 x)).setIfInBounds p2 (e2 x), defers := [] } (some d) (e1 x)) (some bx) (.pointer (some ⟨Bx, 0, none⟩)))
    ?hAx (fun l pre x W K hi hK => by rw [hz]; exact hassign l pre x W K hi fun Bx W' h1 h2 h3 h4 h5 => hK _ _ h1 h2 h3 ⟨Bx, h4, h5, rfl⟩) ?_ hdone hstop
  case hAx =>
    rintro x a' _ W W' row ⟨Bx, h1, h2, h3⟩ hg hr
    exact ⟨Bx, h1, (hg.block Bx (Array.getElem?_eq_some_iff.1 h2).1 (fun e => by obtain ⟨_, o, ho, hc⟩ := hr Bx e.symm; rw [h2] at ho; cases ho; cases hc)).trans h2, h3⟩
  rintro l pre x a' W hl hi ⟨Bx, h1, h2, rfl⟩ hlen
  exact hbody l pre x Bx W hl hi h1 h2 hlen

set_option maxRecDepth 100000 in
set_option maxHeartbeats 4000000 in
theorem ice_Thick_in (c : Kr.Cover) (v : CoverV) (ps : List (List Int × Value)) (pv : Value) (i m : Nat) (w : World) (h : CoverAt w c v) (hp : ListsAt w pv ps) (hsd : ∀ s ∈ c.track, 0 ≤ s.side ∧ s.side ≤ 255) (he : planErr c (ps.map Prod.fst) = 0) (hi : i < c.beds.length) (hm : m ≤ c.hours.length) (hpf : ∀ x ∈ ps, x.1.length ≤ 1000) :
    CallsIn Fence.wide 3 Tryz.prog 13 #[.agg #[v.t, v.b, v.h, .int .i64 c.wear.lo, .int .i64 c.wear.hi, .int .i64 c.layer.lo, .int .i64 c.layer.hi, .int .i64 c.rate, .int .i64 c.limit, .int .i64 c.base], pv, .int .i64 i, .int .i64 m] w fun e w' => e = .returned (.tuple #[.agg #[.int .i64 (thickAt c (ps.map Prod.fst) i m).lo, .int .i64 (thickAt c (ps.map Prod.fst) i m).hi], .int .i64 0]) ∧ w.Exts w' := by
  obtain ⟨hce, hva⟩ := planErr_zero he
  have hf := cover_facts hce
  have hpl : ps.length = c.hours.length := by
    unfold validP at hva
    simp at hva
    exact hva.1
  have hask := fun (W : World) (hE : w.Exts W) => ice_asked_any c v ps pv W (h.mono hE) (hp.mono hE) hsd
  rw [he] at hask
  unfold RinkOf at hask
  obtain ⟨g1, hg1⟩ : ∃ z, inAll 0 ((c.beds.length : Int) - 1) [(i : Int)] = z := ⟨_, rfl⟩
  obtain ⟨g2, hg2⟩ : ∃ z, inAll 0 (c.hours.length : Int) [(m : Int)] = z := ⟨_, rfl⟩
  obtain rfl : g1 = true := by rw [← hg1, inAll_single, inb_iff']; omega
  obtain rfl : g2 = true := by rw [← hg2, inAll_single, inb_iff']; omega
  have hb := hf.beds
  have hb1 := hf.t1
  have hb2 := hf.hours
  have hbl : (c.beds.length : Int) ≤ 12 := by omega
  have hseq := fun (rb bR bI bP f : Nat) (V W : World) (hE : w.Exts V) => fun (hVW : V.Exts W) hrk hbR hbI hbP hfR hfI hfP hfw => rink_days_1_stops 2 rb bR bI bP f 171 c v ps pv i V W hVW (h.mono hE) (hp.mono hE) hrk hbR hbI hbP hfR hfI hfP hfw rfl hf hi hpl hpf
  obtain ⟨qp, cp, rfl⟩ := hp.row.len
  obtain ⟨vt, vb, vh⟩ := v
  obtain ⟨qt, ct, hqt⟩ := h.tr.len
  obtain ⟨qb, cb, hqb⟩ := h.bd.len
  obtain ⟨qh, ch, hqh⟩ := h.hr.len
  dsimp only at hqt hqb hqh
  subst hqt hqb hqh
  dsimp only at hask hseq
  clear h hp hsd he hce hva hb hb1 hb2 hpl
  have HASK := Lib.hid hask
  clear hask
  have HSEQ := Lib.hid hseq
  clear hseq
  have HG1 := Lib.hid hg1
  clear hg1
  have HG2 := Lib.hid hg2
  clear hg2
  refine callsIn_of_wp_marks Tryz.func13 rfl trivial ?_ rfl
  simp only [Tryz.ntmps13, List.size_toArray, List.length_cons, List.length_nil, Nat.reduceAdd, Nat.reduceSub, Array.replicate_succ, Array.replicate_zero, List.push_toArray, List.append_toArray, List.nil_append, List.cons_append]
  gi_wp2_with (first
    | (refine ⟨trivial, ?_⟩; gi_at_call 37; refine (callsIn_wide.2 (HASK.out _ exq)).mono ?_; rintro e w' ⟨p, rfl, hp, X1, rfl⟩; obtain ⟨rb, rfl, hl⟩ := hp rfl; have n1 := Lays.of_cell (LaysAs.cell hl 0 _ rfl); have HL := Lib.hid hl; clear hp hl)
    | (refine ⟨trivial, ?_⟩; gi_at_call 38; ((with_reducible refine (callsIn_wide.2 (ice_in_any 0 ((c.beds.length : Int) - 1) _ [(i : Int)] _ (row_int1 _ _ _ (by simp)))).mono ?_); rintro e w' ⟨rfl, X2, rfl⟩; rw [HG1.out]))
    | (refine ⟨trivial, ?_⟩; gi_at_call 38; ((with_reducible refine (callsIn_wide.2 (ice_in_any 0 (c.hours.length : Int) _ [(m : Int)] _ (row_int1 _ _ _ (by simp)))).mono ?_); rintro e w' ⟨rfl, X3, rfl⟩; rw [HG2.out]))
    | (refine ⟨trivial, ?_⟩; gi_at_call 39; refine (callsIn_wide.2 (rink_days_any _ _ _ _ ⟨_, _, _, rfl⟩)).mono ?_; rintro e w' ⟨rfl, rfl⟩))
  have hEV : w.Exts (World.ext _ X3) := exq
  have k7 : (World.ext _ X3).cell? ⟨w.heap.size + 1, 0, none⟩ = some (.int .i64 m) := by simp [go_sem]
  have k80 : (World.ext _ X3).cell? ⟨w.heap.size + 1 + 1, 0, none⟩ = some (.int .i64 0) := by simp [go_sem]
  have k81 : (World.ext _ X3).cell? ⟨w.heap.size + 1 + 1, 1, none⟩ = some (.int .i64 0) := by simp [go_sem]
  have z80 : (World.ext _ X3).frozen? ⟨w.heap.size + 1 + 1, 0, none⟩ = false := by simp [go_sem]
  have z81 : (World.ext _ X3).frozen? ⟨w.heap.size + 1 + 1, 1, none⟩ = false := by simp [go_sem]
  have hrk := HL.out.exts (w' := World.ext _ X3) exq
  have hsz := World.size_ext_le _ X3
  simp at hsz
  clear HL n1
  generalize World.ext _ X3 = V at *
  have hsq := HSEQ.out rb (V.heap.size + 1) (V.heap.size + 1 + 1 + 1) (V.heap.size + 1 + 1) V.heap.size V ((((V.alloc (.cells #[.int .i64 0, .int .i64 0] 28)).alloc (.cells #[.pointer (some ⟨rb, 0, none⟩)] 101)).alloc (.cells #[.slice qp ps.length cp] 31)).alloc (.cells #[.int .i64 i] 3)) hEV exq hrk
    (LaysAs.exts (laysAs_size (V.alloc (.cells #[.int .i64 0, .int .i64 0] 28)) (.cells #[.pointer (some ⟨rb, 0, none⟩)] 101) (by simp)) exq) (laysAs_size _ _ (by simp)) (LaysAs.exts (laysAs_size ((V.alloc (.cells #[.int .i64 0, .int .i64 0] 28)).alloc (.cells #[.pointer (some ⟨rb, 0, none⟩)] 101)) (.cells #[.slice qp ps.length cp] 31) (by simp)) exq)
    (by omega) (by omega) (by omega) (by simp; omega)
  have hf0 : ((((V.alloc (.cells #[.int .i64 0, .int .i64 0] 28)).alloc (.cells #[.pointer (some ⟨rb, 0, none⟩)] 101)).alloc (.cells #[.slice qp ps.length cp] 31)).alloc (.cells #[.int .i64 i] 3)).heap[V.heap.size]? = some (.cells #[.int .i64 0, .int .i64 0] 28 (0, 0)) := LaysAs.exts (LaysAs.new V (.cells #[.int .i64 0, .int .i64 0] 28)) exq
  have hB0 : Below V.heap.size V ((((V.alloc (.cells #[.int .i64 0, .int .i64 0] 28)).alloc (.cells #[.pointer (some ⟨rb, 0, none⟩)] 101)).alloc (.cells #[.slice qp ps.length cp] 31)).alloc (.cells #[.int .i64 i] 3)) := World.Exts.below exq
  obtain ⟨W0, hW0⟩ : ∃ W0, (((V.alloc (.cells #[.int .i64 0, .int .i64 0] 28)).alloc (.cells #[.pointer (some ⟨rb, 0, none⟩)] 101)).alloc (.cells #[.slice qp ps.length cp] 31)).alloc (.cells #[.int .i64 i] 3) = W0 := ⟨_, rfl⟩
  have hs0 : V.heap.size + 1 + 1 + 1 + 1 = W0.heap.size := by rw [← hW0]; simp
  rw [hW0] at hsq hf0 hB0 ⊢
  clear hW0
  have HSQ := Lib.hid hsq
  clear hsq
  refine wpIn_range_turns2 28 (by omega) (α := HourB c) (gf := 84) rfl (enters_of Tryz.func84 (by kernel_rfl) rfl) (e1 := fun x : HourB c => .int .i64 x.1) (e2 := fun x : HourB c => .agg #[.int .i64 (thickAt c (ps.map Prod.fst) i x.1).lo, .int .i64 (thickAt c (ps.map Prod.fst) i x.1).hi]) (fun x => rfl) HSQ.out (fun h k => h.trans k) (fun W l o o' hl ho h1 _ => KeepsT.put W l o o' (by omega) ho h1)
    (fun (pre : List (HourB c)) W => Below V.heap.size V W ∧ W.heap[V.heap.size]? = some (.cells #[.int .i64 0, .int .i64 0] 28 (0, 0)) ∧ W0.heap.size ≤ W.heap.size ∧ ∀ x ∈ pre, x.1 ≠ m)
    (fun cd pre W => cd = Code.exit 0 ∧ Below V.heap.size V W ∧ W.heap[V.heap.size]? = some (.cells #[.int .i64 (thickAt c (ps.map Prod.fst) i m).lo, .int .i64 (thickAt c (ps.map Prod.fst) i m).hi] 28 (0, 0)))
    (fun s W W' row ⟨h1, h2, h3, h4⟩ hg hr => ⟨below_grown h1 hg (fun r e => by have := (hr r e).1; omega), block_grown h2 (show V.heap.size < W0.heap.size by omega) hg (fun r e => (hr r e).1), Nat.le_trans h3 hg.size, h4⟩)
    (fun cd s W W' row ⟨h1, h2, h3⟩ hg hr => ⟨h1, below_grown h2 hg (fun r e => by have := (hr r e).1; omega), block_grown h3 (show V.heap.size < W0.heap.size by omega) hg (fun r e => (hr r e).1)⟩)
    ⟨hB0, hf0, Nat.le_refl _, fun x hx => by cases hx⟩ 13 14 (fun x : HourB c => [.int .i64 (thickAt c (ps.map Prod.fst) i x.1).lo, .int .i64 (thickAt c (ps.map Prod.fst) i x.1).hi]) ?assign ?body ?done ?stop
  case assign =>
    rintro l pre x W K ⟨h1, h2, h3, h4⟩ hK
    gi_wp2
    exact hK W.heap.size _ ((KeepsOthers.alloc _ _).from _) (KeepsT.of_exts h1.size ((World.Exts.refl W).alloc _)) ⟨h1.alloc h1.size _, (Below.heap_alloc _ _ _ (Array.getElem?_eq_some_iff.1 h2).1).trans h2, by simp; omega, h4⟩ h3 (World.alloc_heap_new W _)
  case body =>
    rintro l pre x Bx W hl ⟨hB, h2, h3, h4⟩ hBx hbx hlen
    obtain ⟨XW, rfl⟩ : ∃ X : Ext V, W = V.ext X := ⟨⟨W, hB⟩, rfl⟩
    have x0 := cells_block (cs := [.int .i64 (thickAt c (ps.map Prod.fst) i x.1).lo, .int .i64 (thickAt c (ps.map Prod.fst) i x.1).hi]) hbx 0 _ rfl
    have x1 := cells_block (cs := [.int .i64 (thickAt c (ps.map Prod.fst) i x.1).lo, .int .i64 (thickAt c (ps.map Prod.fst) i x.1).hi]) hbx 1 _ rfl
    have f0 := block_frozen (i := 0) h2
    have f1 := block_frozen (i := 1) h2
    have y0 := cells_block (cs := [.int .i64 0, .int .i64 0]) h2 0 _ rfl
    have y1 := cells_block (cs := [.int .i64 0, .int .i64 0]) h2 1 _ rfl
    have n7 := Lays.of_cell k7
    have nx := Lays.of_cell x0
    have ny := Lays.of_cell y0
    dsimp only [Act.put]
    by_cases hxm : x.1 = m
    · have hxi : (x.1 : Int) = (m : Int) := by rw [hxm]
      have hxd : decide ((x.1 : Int) = (m : Int)) = true := decide_eq_true hxi
      have hxe : ((x.1 : Int) == (m : Int)) = true := by rw [hxi]; exact beq_self_eq_true _
      gi_wp2
      refine ⟨((KeepsOthers.setCell _ _ _).trans (KeepsOthers.setCell _ _ _)).from _, rfl, ?_, ?_⟩
      · repeat (with_reducible refine Below.setCell ?_ (by dsimp only; omega) _)
        exact hB
      · exact laysAs_put2 (show LaysAs _ _ (.cells [.int .i64 0, .int .i64 0].toArray _ _) from h2)
    · have hxi : ¬ (x.1 : Int) = (m : Int) := by omega
      have hxd : decide ((x.1 : Int) = (m : Int)) = false := decide_eq_false hxi
      have hxe : ((x.1 : Int) == (m : Int)) = false := beq_eq_false_iff_ne.2 hxi
      gi_wp2
      refine ⟨(KeepsOthers.refl _).from _, KeepsT.of_exts hB.size (World.Exts.refl _), hB, h2, h3, fun y hy => ?_⟩
      rcases List.mem_append.1 hy with hy | hy
      · exact h4 y hy
      · rw [List.mem_singleton.1 hy]
        exact hxm
  case done =>
    rintro D xs W hD hS ⟨-, -, -, h4⟩ -
    exfalso
    have hS2 : xs.map Subtype.val = List.range (c.hours.length + 1) := hS
    have hmem : m ∈ xs.map Subtype.val := by rw [hS2]; simp; omega
    obtain ⟨x, hx, rfl⟩ := List.mem_map.1 hmem
    exact h4 x hx rfl
  case stop =>
    rintro D cd pre W hD - ⟨rfl, hB, h2⟩ hK
    obtain ⟨XW, rfl⟩ : ∃ X : Ext V, W = V.ext X := ⟨⟨W, hB⟩, rfl⟩
    have y0 := cells_block (cs := [.int .i64 (thickAt c (ps.map Prod.fst) i m).lo, .int .i64 (thickAt c (ps.map Prod.fst) i m).hi]) h2 0 _ rfl
    have y1 := cells_block (cs := [.int .i64 (thickAt c (ps.map Prod.fst) i m).lo, .int .i64 (thickAt c (ps.map Prod.fst) i m).hi]) h2 1 _ rfl
    have ny := Lays.of_cell y0
    have n8 := Lays.of_cell k80
    obtain ⟨tlo, htlo⟩ : ∃ z, (thickAt c (ps.map Prod.fst) i m).lo = z := ⟨_, rfl⟩
    obtain ⟨thi, hthi⟩ : ∃ z, (thickAt c (ps.map Prod.fst) i m).hi = z := ⟨_, rfl⟩
    rw [htlo] at y0
    rw [hthi] at y1
    clear h2
    have HTLO := Lib.hid htlo
    clear htlo
    have HTHI := Lib.hid hthi
    clear hthi
    gi_wp2
    have hKD := ((KeepsOthers.setCell (V.ext XW) ⟨w.heap.size + 1 + 1, 0, none⟩ (.int .i64 tlo)).trans (KeepsOthers.setCell _ ⟨w.heap.size + 1 + 1, 1, none⟩ (.int .i64 thi))).same D _ hK rfl
    refine ⟨by simp, .inl ⟨_, _, rfl, run_takeDeferred hKD, ?_⟩⟩
    have e0 : (((V.ext XW).setCell ⟨w.heap.size + 1 + 1, 0, none⟩ (.int .i64 tlo)).setCell ⟨w.heap.size + 1 + 1, 1, none⟩ (.int .i64 thi)).cell? ⟨w.heap.size + 1 + 1, 0, none⟩ = some (.int .i64 tlo) := by simp [go_sem, k80]
    have e1 : (((V.ext XW).setCell ⟨w.heap.size + 1 + 1, 0, none⟩ (.int .i64 tlo)).setCell ⟨w.heap.size + 1 + 1, 1, none⟩ (.int .i64 thi)).cell? ⟨w.heap.size + 1 + 1, 1, none⟩ = some (.int .i64 thi) := by simp [go_sem, k81]
    have e2 := cell_kept e0 (grownBy_putObj' _ D (.deferred none)) (fun r e => by cases e; exact ⟨_, hKD, rfl⟩)
    have e3 := cell_kept e1 (grownBy_putObj' _ D (.deferred none)) (fun r e => by cases e; exact ⟨_, hKD, rfl⟩)
    have hE9 : w.Exts (((V.ext XW).setCell ⟨w.heap.size + 1 + 1, 0, none⟩ (.int .i64 tlo)).setCell ⟨w.heap.size + 1 + 1, 1, none⟩ (.int .i64 thi)) := World.Exts.setCell (World.Exts.setCell (hEV.trans ⟨XW, rfl⟩) (by dsimp only; omega) _) (by dsimp only; omega) _
    have hsV := hEV.size
    have hDw : w.heap.size ≤ D := by omega
    refine ⟨.tuple #[.agg #[.int .i64 tlo, .int .i64 thi], .int .i64 0], ?_, by rw [HTLO.out, HTHI.out], .of (hE9.below.trans (belowK_b (w := w) (Nat.le_refl _) _ D _ _ hDw hKD rfl rfl))⟩
    simp [results, Tryz.results13, go_sem, e2, e3]

theorem ice_Thick_any (c : Kr.Cover) (v : CoverV) (ps : List (List Int × Value)) (pv : Value) (i m : Nat) (w : World) (h : CoverAt w c v) (hp : ListsAt w pv ps) (hsd : ∀ s ∈ c.track, 0 ≤ s.side ∧ s.side ≤ 255) (he : planErr c (ps.map Prod.fst) = 0) (hi : i < c.beds.length) (hm : m ≤ c.hours.length) (hpf : ∀ x ∈ ps, x.1.length ≤ 1000) :
    Calls Tryz.prog 13 #[.agg #[v.t, v.b, v.h, .int .i64 c.wear.lo, .int .i64 c.wear.hi, .int .i64 c.layer.lo, .int .i64 c.layer.hi, .int .i64 c.rate, .int .i64 c.limit, .int .i64 c.base], pv, .int .i64 i, .int .i64 m] w fun e w' => e = .returned (.tuple #[.agg #[.int .i64 (thickAt c (ps.map Prod.fst) i m).lo, .int .i64 (thickAt c (ps.map Prod.fst) i m).hi], .int .i64 0]) ∧ w.Exts w' :=
  callsIn_wide.1 (ice_Thick_in c v ps pv i m w h hp hsd he hi hm hpf)
end Go.Proofs.YtcickafaomfbmaaGreatDoor
