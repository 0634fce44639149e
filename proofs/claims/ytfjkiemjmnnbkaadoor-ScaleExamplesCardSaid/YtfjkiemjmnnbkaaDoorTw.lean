/-
  Several texts in one: see the heads of its parts.
-/
import Derived.Test.YtfjkiemjmnnbkaaDoorTx

/-
  Walks of package scale: Truth.
-/
namespace Go.Proofs.YtfjkiemjmnnbkaaDoor
open Go.RowKit Go.Shelf Go.Maps Kr
set_option linter.unusedSimpArgs false

attribute [local go_sem] Oper.semAt_some

theorem elem_truthSl : ElemOf Tryd.prog 102 107 (.slice none 0 0) 1 24 := ⟨Tryd.underlying102, by kernel_rfl, rfl, by decide, by decide⟩

abbrev encPart (t : Part) : List Value := [.int .i64 t.gain, .int .i64 t.off, .int .i64 t.sum.lo, .int .i64 t.sum.hi]
abbrev encSpan (t : Kr.Span) : List Value := [.int .i64 t.lo, .int .i64 t.hi]
theorem encPart_no (x : Part) : ∃ u, (encPart x)[0]? = some u ∧ ∀ q n c, u ≠ .slice q n c := ⟨_, rfl, by intro q n c h; cases h⟩
theorem encSpan_no (x : Kr.Span) : ∃ u, (encSpan x)[0]? = some u ∧ ∀ q n c, u ≠ .slice q n c := ⟨_, rfl, by intro q n c h; cases h⟩
/-- What lies in a world in which 'all' and 'later' are filled: the boxes, the two tables, the iterator's box. -/
structure LatAt (b n : Nat) (scv : Value) (f : Nat → List Part) (h : Nat → List Kr.Span) (W : World) : Prop where
  b0 : LaysAs W b (.cells [scv].toArray 35 (0, 0))
  d1 : TabAt encPart 4 W (b + 1) 107 n f
  b2 : LaysAs W (b + 1 + 1) (.cells [.slice (some ⟨b + 1, 0, none⟩) n n].toArray 102 (0, 0))
  d3 : TabAt encSpan 2 W (b + 1 + 1 + 1) 49 (n + 1) h
  b4 : LaysAs W (b + 1 + 1 + 1 + 1) (.cells [.slice (some ⟨b + 1 + 1 + 1, 0, none⟩) (n + 1) (n + 1)].toArray 103 (0, 0))
theorem LatAt.exts {b n : Nat} {scv : Value} {f : Nat → List Part} {h : Nat → List Kr.Span} {W W' : World} (k : LatAt b n scv f h W) (hE : W.Exts W') : LatAt b n scv f h W' :=
  ⟨k.b0.exts hE, k.d1.exts hE, k.b2.exts hE, k.d3.exts hE, k.b4.exts hE⟩
theorem LatAt.own {b n : Nat} {scv : Value} {f : Nat → List Part} {h : Nat → List Kr.Span} {W W' : World} (k : LatAt b n scv f h W) {row : Option Nat} (hg : W.grownBy W' row) (hrow : ∀ r, row = some r → ∃ o : Obj, W.heap[r]? = some o ∧ o.isCells = false) : LatAt b n scv f h W' :=
  ⟨k.b0.keep hg hrow, k.d1.own hg hrow, k.b2.keep hg hrow, k.d3.own hg hrow, k.b4.keep hg hrow⟩
/-- A cell of 'all' is written. -/
theorem LatAt.putAll {b n : Nat} {scv : Value} {f : Nat → List Part} {h : Nat → List Kr.Span} {W : World} (k : LatAt b n scv f h W) {i : Nat} (hi : i < n) {v : Value} {l : List Part} (hv : IsRow encPart 4 W v l) : LatAt b n scv (fun m => if m = i then l else f m) h (W.setCell ⟨b + 1, i, none⟩ v) := by
  obtain ⟨C, hC1, hC2⟩ := k.d1.lays
  exact ⟨laysAs_other k.b0 (by dsimp only; omega) _, k.d1.put encPart_no hi hv, laysAs_other k.b2 (by dsimp only; omega) _, k.d3.beside encSpan_no hC1 hC2 (by omega) _, laysAs_other k.b4 (by dsimp only; omega) _⟩
theorem LatAt.putLat {b n : Nat} {scv : Value} {f : Nat → List Part} {h : Nat → List Kr.Span} {W : World} (k : LatAt b n scv f h W) {i : Nat} (hi : i < n + 1) {v : Value} {l : List Kr.Span} (hv : IsRow encSpan 2 W v l) : LatAt b n scv f (fun m => if m = i then l else h m) (W.setCell ⟨b + 1 + 1 + 1, i, none⟩ v) := by
  obtain ⟨C, hC1, hC2⟩ := k.d3.lays
  exact ⟨laysAs_other k.b0 (by dsimp only; omega) _, k.d1.beside encPart_no hC1 hC2 (by omega) _, laysAs_other k.b2 (by dsimp only; omega) _, k.d3.put encSpan_no hi hv, laysAs_other k.b4 (by dsimp only; omega) _⟩
theorem LatAt.congr {b n : Nat} {scv : Value} {f f' : Nat → List Part} {h h' : Nat → List Kr.Span} {W : World} (k : LatAt b n scv f h W) (e1 : ∀ m, m < n → f m = f' m) (e2 : ∀ m, m < n + 1 → h m = h' m) : LatAt b n scv f' h' W :=
  ⟨k.b0, k.d1.congr e1, k.b2, k.d3.congr e2, k.b4⟩
theorem latAt_start (W : World) (n : Nat) (scv : Value) :
    LatAt W.heap.size n scv (fun _ => []) (lat0 n) ((((((W.alloc (.cells #[scv] 35)).alloc (.cells (Array.replicate n (Value.slice none 0 0)) 107)).alloc (.cells #[.slice (some ⟨W.heap.size + 1, 0, none⟩) n n] 102)).alloc
      (.cells ((nils (n + 1)).set n (.slice (some ⟨W.heap.size + 1 + 1 + 1 + 1 + 1, 0, none⟩) 1 1)).toArray 49)).alloc (.cells #[.slice (some ⟨W.heap.size + 1 + 1 + 1, 0, none⟩) (n + 1) (n + 1)] 103)).alloc (.cells #[.int .i64 0, .int .i64 0] 25)) := by
  rw [show Array.replicate n (Value.slice none 0 0) = (List.replicate n (Value.slice none 0 0)).toArray by simp]
  refine ⟨LaysAs.exts (laysAs_size W _ rfl) exq, TabAt.exts (TabAt.made (n := n) (W.alloc _) (by simp)) exq, LaysAs.exts (laysAs_size ((W.alloc _).alloc _) _ (by simp)) exq, ?_, LaysAs.exts (laysAs_size ((((W.alloc _).alloc _).alloc _).alloc _) _ (by simp)) exq⟩
  refine ⟨(nils (n + 1)).set n (.slice (some ⟨W.heap.size + 1 + 1 + 1 + 1 + 1, 0, none⟩) 1 1), LaysAs.exts (laysAs_size (((W.alloc _).alloc _).alloc _) _ (by simp)) exq, by simp [nils], fun u hu => ?_, fun m hm => ?_⟩
  · rcases List.mem_or_eq_of_mem_set hu with h | rfl
    · exact ⟨none, 0, 0, List.eq_of_mem_replicate h⟩
    · exact ⟨_, _, _, rfl⟩
  · by_cases hmn : m = n
    · subst hmn
      refine ⟨_, List.getElem?_set_self (by simp [nils]), ?_⟩
      unfold lat0
      rw [if_pos rfl]
      exact one_span_row _ 0 (by simp)
    · refine ⟨.slice none 0 0, ?_, ?_⟩
      · rw [List.getElem?_set_ne (Ne.symm hmn)]; unfold nils; rw [List.getElem?_replicate, if_pos hm]
      · unfold lat0; rw [if_neg hmn]; exact IsRow.nil _

theorem lat_plus {PS : List (List Part)} {ls : List Load} {s : Scale} (hga : GoodAll ls.length PS) (hr : right s = true) (h6 : ls.length ≤ 6) {pre : List Nat} (hp : pre.length ≤ 4) (m : Nat) : PlusOk (sums (parts s ls)) (latOf PS pre m) := by
  have hg := parts_good s ls
  have hnn := sums_neat hg
  have hw := sums_within hg
  have hlen : (sums (parts s ls)).length ≤ 4221 := Nat.le_trans (merged_len _) (by rw [List.length_map]; exact parts_len ls hr)
  have ho := latOf_ok hga pre m
  have hb : 1000000 * (ls.length : Int) * (pre.length : Int) ≤ 24000000 := by
    have h1 : (ls.length : Int) * (pre.length : Int) ≤ 6 * 4 := by
      have := Nat.mul_le_mul h6 hp
      omega
    rw [Int.mul_assoc]; omega
  have hnon : (0 : Int) ≤ 1000000 * (ls.length : Int) * (pre.length : Int) := Int.mul_nonneg (by omega) (by omega)
  have hrl := neat_len ho.1 ho.2 (by omega)
  refine ⟨hnn.1, ho.1.1, within_le hw (by omega), within_le ho.2 (by omega), ?_⟩
  have h2 : (latOf PS pre m).length ≤ 24000001 := by omega
  calc _ ≤ 4221 * 24000001 := Nat.mul_le_mul hlen h2
    _ ≤ 1000000000000 := by decide

theorem cell_of_block {W W' : World} {b i : Nat} (h : W'.heap[b]? = W.heap[b]?) : W'.cell? ⟨b, i, none⟩ = W.cell? ⟨b, i, none⟩ := by simp [World.cell?, h]

theorem quiet_lookup {P : Program} {C : World → Prop} {o : Oper} {a : Act} {K : Act → Prop} {t : TypeId} {m k : Operand} {ok : Bool} {vm vk v : Value} (ho : o.op = .lookup t m k ok) (hm : a.eval m = vm) (hk : a.eval k = vk)
    (h : ∀ W, C W → (Instr.lookup t vm vk ok).run P W = .ok v W) (hK : K (a.put o.dst v)) : o.quiet P a C K :=
  ⟨v, fun W hW => by unfold Oper.quietAt; simp [execOp, ho, hm, hk, h W hW, Result.andThen, Oper.quietUpon], hK⟩
theorem zero_pair (w : World) : (zeroValue 74).run Tryd.prog w = .ok (.agg #[.int .i64 0, .int .i64 0]) w := by kernel_rfl

set_option maxRecDepth 100000 in
set_option maxHeartbeats 8000000 in
theorem scale_Truth_in (ts : List (Kr.Scale × Value)) (v : Value) (g : Gear) (lv rv sv : Value) (total : Int) (w : World) (hb : BayAt w v ts) (hg : GearAt w (g, lv, rv, sv)) (hz : check (ts.map Prod.fst) g = 0)
    (hto : (totals (ts.map Prod.fst) g).any (fun s => inAll s.lo s.hi [total]) = true) :
    CallsIn Fence.wide 3 Tryd.prog 16 #[.agg #[v], .agg #[lv, .int .i64 g.added, .int .i64 g.base, .int .i64 g.jitter, rv, sv, .int .i64 g.spread, .bool g.stamp], .int .i64 total] w fun e w' => ∃ v1 v2 t1 t2 er, e = .returned (.tuple #[.agg #[v1, v2], .int .i64 er]) ∧ truthR (ts.map Prod.fst) g total = ((t1, t2), er) ∧ IsRow (fun q : Part => [.int .i64 q.gain, .int .i64 q.off]) 2 w' v1 t1 ∧ IsRow (fun x : Int => [.int .i64 x]) 1 w' v2 t2 ∧ w.Exts w' := by
  obtain ⟨hz1, hz2⟩ := check_zero hz
  have hok := check_ok hz1 hz2
  have hrt : ∀ x ∈ ts, right x.1 = true := fun x hx => hok.rt _ (List.mem_map.2 ⟨x, hx, rfl⟩)
  have hsh : ∀ x ∈ ts, ∀ l ∈ g.loads, l.scale = x.1.id → -2000000 ≤ l.shown ∧ l.shown ≤ 2000000 := fun x hx => hok.sh _ (List.mem_map.2 ⟨x, hx, rfl⟩)
  have hn : ts.length ≤ 4 := by have := hok.few; rwa [List.length_map] at this
  have h6 := hok.l6
  have had := hok.ad
  have he : askErr ts [(g, lv, rv, sv)] = check (ts.map Prod.fst) g := by unfold askErr check; simp
  rw [hz] at he
  have hul : (usedBay g.loads ts).length ≤ 4 := by have := usedBay_len g.loads ts ts.length; rw [List.take_length] at this; omega
  have hUm : ∀ x ∈ usedBay g.loads ts, x ∈ ts := fun x hx => (List.mem_filter.1 hx).1
  have hus := (usedBay_fst g.loads ts).symm
  have hids := used_ids hz1 g.loads
  rw [hus] at hids
  have hload : ∀ l ∈ g.loads, ∃ x ∈ ts, x.1.id = l.scale ∧ ts.find? (fun x => x.1.id == l.scale) = some x := fun l hl => by
    have h1 := hz2
    simp only [gearOk, Bool.and_eq_true, List.all_eq_true] at h1
    have h2 := h1.1.1 l hl
    rw [loadOk_find] at h2
    cases hf : ts.find? (fun x => x.1.id == l.scale) with
    | none => rw [hf] at h2; cases h2
    | some x => exact ⟨x, List.mem_of_find?_eq_some hf, by simpa using List.find?_some hf, rfl⟩
  have HLOAD := Lib.hid hload
  clear hload
  have htr := hb.tr
  obtain ⟨p, cap, hv⟩ := hb.row.len
  subst hv
  have hl1 := hg.l
  have hl2 := hg.r
  have hl3 := hg.s
  dsimp only at hl1 hl2 hl3
  obtain ⟨p1, cap1, rfl⟩ := hl1.len
  obtain ⟨p2, cap2, rfl⟩ := hl2.len
  obtain ⟨p3, cap3, rfl⟩ := hl3.len
  have HG := Lib.hid hg
  clear hg
  have HG0 := Lib.hid HG.out
  have HB := Lib.hid hb
  clear hb
  have HZ := Lib.hid hz
  clear hz
  have HTO := Lib.hid hto
  clear hto
  have HRT := Lib.hid hrt
  clear hrt
  have HSH := Lib.hid hsh
  clear hsh
  have HTR := Lib.hid htr
  clear htr
  have HE := Lib.hid he
  clear he
  have HUS := Lib.hid hus
  clear hus
  have HIDS := Lib.hid hids
  clear hids
  clear hl1 hl2 hl3 hz1 hz2 hok
  have hmk1 := run_make_tab 102 107 elem_truthSl (usedBay g.loads ts).length (by omega)
  refine callsIn_of_wp_marks Tryd.func16 rfl trivial ?_ rfl
  simp only [Tryd.ntmps16, List.size_toArray, List.length_cons, List.length_nil, Nat.reduceAdd, Nat.reduceSub, Array.replicate_succ, Array.replicate_zero, List.push_toArray, List.append_toArray, List.nil_append, List.cons_append]
  refine wpIn_wide.2 ?_
  go_wp2_with (first
    | (go_at_call 29; refine (scale_asked_any ts _ [(g, _, _, _)] _ _ (HB.out.mono exq) (row_gear1 _ (g, _, _, _) _ (by simp)) (fun y hy => by rw [List.mem_singleton.1 hy]; exact HG.out.mono exq)).mono ?_; rintro e w' ⟨pp, rfl, hy, X2, rfl⟩; obtain ⟨_, bb, rfl, hh⟩ := hy HE.out; rw [HE.out]; have HH := Lib.hid hh; clear hh hy)
    | (go_at_call 30; refine (hall_totals_any ts _ g _ _ _ _ _ (HH.out.mono exq) (HG.out.mono exq) hn HRT.out h6 HSH.out had).mono ?_; rintro e w' ⟨vt, rfl, ht, X3, rfl⟩; obtain ⟨qt, ct, rfl⟩ := ht.len; have HT := Lib.hid ht; clear ht)
    | (go_at_call 37; refine (ContainsFunc_Span_any (totals (ts.map Prod.fst) g) (fun s => inAll s.lo s.hi [total]) _ _ _ _ (HT.out.mono exq) (enters_of Tryd.func38 (by kernel_rfl) rfl) (answers1 fun t ht W hW => scale_Truth_1_any t total _ W (hW.cell (by simp [go_sem])))).mono ?_; rintro e w' ⟨rfl, X4, rfl⟩; rw [HTO.out]))
  go_at_call 39
  refine (hall_used_any ts _ g _ _ _ _ _ (HH.out.mono exq) (HG.out.mono exq) (by omega) HRT.out).mono ?_
  rintro e w' ⟨vu, rfl, hbu, X5, rfl⟩
  obtain ⟨qu, cu, rfl⟩ := hbu.row.len
  have hEV : w.Exts (World.ext _ X5) := exq
  have hhV := HH.out.mono (hw := (exq : World.Exts _ (World.ext _ X5)))
  have g0 : (World.ext _ X5).cell? ⟨w.heap.size + 1, 0, none⟩ = some (.slice p1 g.loads.length cap1) := by simp [go_sem]
  have g1 : (World.ext _ X5).cell? ⟨w.heap.size + 1, 1, none⟩ = some (.int .i64 g.added) := by simp [go_sem]
  have g2 : (World.ext _ X5).cell? ⟨w.heap.size + 1, 2, none⟩ = some (.int .i64 g.base) := by simp [go_sem]
  have g3 : (World.ext _ X5).cell? ⟨w.heap.size + 1, 3, none⟩ = some (.int .i64 g.jitter) := by simp [go_sem]
  have g4 : (World.ext _ X5).cell? ⟨w.heap.size + 1, 4, none⟩ = some (.slice p2 g.runners.length cap2) := by simp [go_sem]
  have g5 : (World.ext _ X5).cell? ⟨w.heap.size + 1, 5, none⟩ = some (.slice p3 g.strokes.length cap3) := by simp [go_sem]
  have g6 : (World.ext _ X5).cell? ⟨w.heap.size + 1, 6, none⟩ = some (.int .i64 g.spread) := by simp [go_sem]
  have g7 : (World.ext _ X5).cell? ⟨w.heap.size + 1, 7, none⟩ = some (.bool g.stamp) := by simp [go_sem]
  have tt0 : (World.ext _ X5).cell? ⟨w.heap.size + 1 + 1, 0, none⟩ = some (.int .i64 total) := by simp [go_sem]
  have r0 : (World.ext _ X5).cell? ⟨w.heap.size + 1 + 1 + 1, 0, none⟩ = some (.slice none 0 0) := by simp [go_sem]
  have r1 : (World.ext _ X5).cell? ⟨w.heap.size + 1 + 1 + 1, 1, none⟩ = some (.slice none 0 0) := by simp [go_sem]
  have fr0 : (World.ext _ X5).frozen? ⟨w.heap.size + 1 + 1 + 1, 0, none⟩ = false := by simp [go_sem]
  have fr1 : (World.ext _ X5).frozen? ⟨w.heap.size + 1 + 1 + 1, 1, none⟩ = false := by simp [go_sem]
  have HBU := Lib.hid hbu
  clear hbu
  clear HH HT
  generalize World.ext _ X5 = V at *
  have hud : usedBay g.loads ts = ts.filter fun x => usedB g.loads x.1 := rfl
  have HUD := Lib.hid hud
  clear hud
  generalize usedBay g.loads ts = U at *
  have hLg := Lays.of_cell g0
  have hLt := Lays.of_cell tt0
  have hLr := Lays.of_cell r0
  have HHV := Lib.hid hhV
  clear hhV
  have HUM := Lib.hid hUm
  clear hUm
  have hmk3 := run_make_nils U.length (by omega)
  have hnn : (nils (U.length + 1))[U.length]? = some (.slice none 0 0) := by simp [nils]
  have hnl : (nils (U.length + 1)).length = U.length + 1 := by simp [nils]
  go_wp2_with (go_at_call 40; refine (Backward_Scale_any _ _ _ _).mono ?_; rintro e w' ⟨rfl, rfl⟩)
  have hst := latAt_start V U.length (.slice qu U.length cu)
  have hpl : ((U.map Prod.fst).map fun s => parts s g.loads).length = U.length := by simp
  refine (wpIn_wide (n := 3)).1 ?_
  refine wpIn_range_pair (by omega) (gf := 65) (lb := #[.pointer (some ⟨V.heap.size + 1 + 1 + 1 + 1 + 1 + 1, 0, none⟩)]) rfl (enters_of Tryd.func65 (by kernel_rfl) rfl)
    (encs := encBackward_Scale U) (e1 := fun i => .int .i64 (i.1 : Int)) (e2 := fun i => .agg #[.int .i64 (U.get i).1.id, .int .i64 (U.get i).1.step, .int .i64 (U.get i).1.gain.lo, .int .i64 (U.get i).1.gain.hi, .int .i64 (U.get i).1.off.lo, .int .i64 (U.get i).1.off.hi, (U.get i).2]) (fun _ => rfl)
    (Backward_Scale_1_stops 2 U (.slice qu U.length cu) (V.heap.size + 1 + 1 + 1 + 1 + 1 + 1) V _ exq ?hbs HBU.out.row)
    (fun h k => h.trans k) (KeepsScale.put (by simp; omega) (by simp))
    (fun pre W => Below V.heap.size V W ∧ LatAt V.heap.size U.length (.slice qu U.length cu) (allOf ((U.map Prod.fst).map fun s => parts s g.loads) (pre.map Fin.val)) (latOf ((U.map Prod.fst).map fun s => parts s g.loads) (pre.map Fin.val)) W)
    ?hI ?h0 13 ?assign (fun W => ⟨Below.refl _ _, fun _ => rfl⟩) ?body ?done
  case hbs => exact laysAs_size _ _ (by simp)
  case hI => exact OwnFrom.and (ownFrom_below (Nat.le_refl _) (by simp; omega)) (Own.from (fun pre X Y row hs hg hr => hs.own hg hr) _)
  case h0 =>
    refine ⟨World.Exts.below exq, LatAt.congr (f := fun _ => []) (h := lat0 U.length) ?_ (fun m _ => rfl) (fun m _ => ?_)⟩
    · exact hst.exts exq
    · show lat0 U.length m = lat0 _ m
      rw [hpl]
  case assign =>
    rintro l x W K hK
    gi_wp2
    exact hK
  case body =>
    rintro l pre x W hl ⟨hB, hL⟩ hlen
    obtain ⟨XW, rfl⟩ : ∃ X : Ext V, W = V.ext X := ⟨⟨W, hB⟩, rfl⟩
    obtain ⟨i, hi⟩ := x
    obtain ⟨⟨s, tv⟩, hx⟩ := some_of_lt hi
    have hget : U.get ⟨i, hi⟩ = (s, tv) := (List.getElem?_eq_some_iff.1 hx).2
    rw [hget]
    obtain ⟨pu, bu, ou, cpu, eu, hmu, hpu, hcu⟩ := HBU.out.row.ex
    simp only [Value.slice.injEq] at eu
    obtain ⟨rfl, -, rfl⟩ := eu
    obtain ⟨rfl, hlu⟩ := hpu (by omega)
    have hmem := HUM.out _ (List.mem_of_getElem? hx)
    have htx := HTR.out _ hmem
    have hrs := HRT.out _ hmem
    have hss := HSH.out _ hmem
    dsimp only at htx hrs hss
    obtain ⟨q1, cp1, rfl⟩ := htx.len
    have hcs := hcu i _ hx
    have c0 := hcs 0 _ rfl
    have c1 := hcs 1 _ rfl
    have c2 := hcs 2 _ rfl
    have c3 := hcs 3 _ rfl
    have c4 := hcs 4 _ rfl
    have c5 := hcs 5 _ rfl
    have c6 := hcs 6 _ rfl
    simp only [Nat.add_zero] at c0 c1 c2 c3 c4 c5 c6
    have hLc := Lays.of_cell c0
    have k0 := LaysAs.cell hL.b0 0 _ rfl
    have k2 := LaysAs.cell hL.b2 0 _ rfl
    have k4 := LaysAs.cell hL.b4 0 _ rfl
    have hLk0 := Lays.of_cell k0
    have hLk2 := Lays.of_cell k2
    have hLk4 := Lays.of_cell k4
    obtain ⟨qa, ca, a0, af, har⟩ := hL.d1.cell hi
    have hLa := Lays.of_cell a0
    have hPS : ((U.map Prod.fst).map fun s => parts s g.loads).getD i [] = parts s g.loads := by
      rw [List.getD_eq_getElem?_getD, List.getElem?_map, List.getElem?_map, hx]; rfl
    have HTX := Lib.hid htx
    clear htx
    have HRS := Lib.hid hrs
    clear hrs
    have HSS := Lib.hid hss
    clear hss
    have HL := Lib.hid hL
    clear hL
    have HBW := Lib.hid hB
    clear hB
    have HPS := Lib.hid hPS
    clear hPS
    clear hcs hcu hmem hx hget har hst
    dsimp only [Act.put]
    gi_wp2
    refine wpIn_region_calls_round 9 (fun i => i == 7) (fun c v W => IsRow encPart 4 W v (parts s g.loads)) (by kernel_rfl) (by kernel_rfl) (fun ν => by kernel_rfl) (by kernel_rfl) (by kernel_rfl) (by kernel_rfl) (by kernel_rfl) ?mono ?_
    rotate_left 1
    apply Exists.intro
    refine ⟨fun ν L hL => ?_, fun c oc hc hU ν W hE hΦ => ?_, fun ν W hE hΦ => ?_⟩
    · simp only [modU, cOp, List.mapIdx_cons, List.mapIdx_nil, Nat.zero_add, Nat.reduceAdd, Nat.reduceBEq, Bool.or_false, Bool.false_or, Bool.or_true, Bool.true_or, Bool.or_self, Bool.false_eq_true, if_false, if_true, List.take_succ_cons, List.take_zero]
      repeat (go_big_quiet_step (fail))
      exact wpQuiet_nil hL
    · simp at hU
      subst hU
      simp only [List.getElem?_cons_succ, List.getElem?_cons_zero, Option.some.injEq] at hc
      subst hc
      have hwW : w.Exts W := hEV.trans (World.Exts.trans ⟨XW, rfl⟩ hE)
      refine Oper.gives_fn rfl rfl rfl (enters_of Tryd.func41 (by kernel_rfl) rfl) ?_ rfl
      refine (scale_truths_any s _ g _ _ _ W (HTX.out.mono hwW) HRS.out (HG.out.mono hwW) h6 HSS.out).mono ?_
      rintro e W' ⟨v', rfl, h1, h2⟩
      exact ⟨v', rfl, h2, h1⟩
    · have h5 := hΦ 7 (by decide) rfl
      simp only [List.drop_succ_cons, List.drop_zero]
      generalize ν 7 = v7 at h5 ⊢
      obtain ⟨q7, c7, rfl⟩ := h5.len
      obtain ⟨XS, rfl⟩ := hE
      have hL1 := (HL.out.exts (W' := (V.ext XW).ext XS) exq).putAll hi h5
      have H5 := Lib.hid h5
      clear h5
      have HL1 := Lib.hid hL1
      clear hL1
      clear hΦ
      go_wp2_with fail
      refine ⟨rfl, ?_⟩
      have hKF : KeepsFrom (V.heap.size + 1 + 1 + 1 + 1 + 1 + 1 + 1) (V.ext XW) (((V.ext XW).ext XS).setCell ⟨V.heap.size + 1, i, none⟩ (.slice q7 (parts s g.loads).length c7)) :=
        ((KeepsOthers.of_exts ⟨XS, rfl⟩).from _).trans (KeepsFrom.of_grownBy (grown_set _ (V.heap.size + 1) i _) (fun j e => by cases e; omega))
      have hKS : KeepsScale V (V.heap.size + 1 + 1 + 1 + 1 + 1 + 1) (V.ext XW) (((V.ext XW).ext XS).setCell ⟨V.heap.size + 1, i, none⟩ (.slice q7 (parts s g.loads).length c7)) :=
        (KeepsScale.of_exts HBW.out.size ⟨XS, rfl⟩).trans ⟨(Below.refl _ _).setCell (by dsimp only; omega) _, fun _ => World.heap_set_other _ _ _ (by dsimp only; omega)⟩
      have hEV1 : V.Exts (((V.ext XW).ext XS).setCell ⟨V.heap.size + 1, i, none⟩ (.slice q7 (parts s g.loads).length c7)) := exq
      obtain ⟨XV, hXV⟩ := hEV1
      rw [hXV] at HL1 hKF hKS ⊢
      clear k0 k2 k4 hLk0 hLk2 hLk4 a0 af hLa hXV
      have k0 := LaysAs.cell HL1.out.b0 0 _ rfl
      have k2 := LaysAs.cell HL1.out.b2 0 _ rfl
      have k4 := LaysAs.cell HL1.out.b4 0 _ rfl
      have hLk2 := Lays.of_cell k2
      have hLk4 := Lays.of_cell k4
      obtain ⟨qa, ca, a0, -, har⟩ := HL1.out.d1.cell hi
      simp only [if_true] at a0 har
      have hLa := Lays.of_cell a0
      obtain ⟨qn, cn, n0, -, hnr⟩ := HL1.out.d3.cell (m := i + 1) (by omega)
      obtain ⟨qo, co, o0, fo, -⟩ := HL1.out.d3.cell (m := i) (by omega)
      have hLn := Lays.of_cell n0
      have hpo := lat_plus (goodAll (U.map Prod.fst) g.loads) HRS.out h6 (pre := pre.map Fin.val) (by rw [List.length_map]; omega) (i + 1)
      generalize hR : latOf ((U.map Prod.fst).map fun s => parts s g.loads) (pre.map Fin.val) (i + 1) = R at n0 hnr hpo
      have HR := Lib.hid hR
      clear hR
      have HPO := Lib.hid hpo
      clear hpo
      have HAR := Lib.hid har
      clear har
      have HNR := Lib.hid hnr
      clear hnr
      have HKF := Lib.hid hKF
      clear hKF
      have HKS := Lib.hid hKS
      clear hKS
      gi_wp2
      refine wpIn_region_calls_round 14 (fun i => i == 6 || i == 12) (fun c v W => RestOne (parts s g.loads) R c W v) (by kernel_rfl) (by kernel_rfl) (fun ν => by kernel_rfl) (by kernel_rfl) (by kernel_rfl) (by kernel_rfl) (by kernel_rfl) ?mono2 ?_
      rotate_left 1
      apply Exists.intro
      refine ⟨fun ν L hL => ?_, fun c oc hc hU ν W hE hΦ => ?_, fun ν W hE hΦ => ?_⟩
      · simp only [modU, cOp, List.mapIdx_cons, List.mapIdx_nil, Nat.zero_add, Nat.reduceAdd, Nat.reduceBEq, Bool.or_false, Bool.false_or, Bool.or_true, Bool.true_or, Bool.or_self, Bool.false_eq_true, if_false, if_true, List.take_succ_cons, List.take_zero]
        repeat (go_big_quiet_step (fail))
        exact wpQuiet_nil hL
      · simp at hU
        rcases hU with rfl | rfl
        · simp only [List.getElem?_cons_succ, List.getElem?_cons_zero, Option.some.injEq] at hc
          subst hc
          refine Oper.gives_fn rfl rfl rfl (enters_of Tryd.func43 (by kernel_rfl) rfl) ?_ rfl
          refine (scale_sums_any _ _ W (HAR.out.mono hE) g.loads.length (by omega) (parts_good _ _) (Nat.le_trans (parts_len _ HRS.out) (by decide))).mono ?_
          rintro e W' ⟨v', rfl, h1, h2⟩
          exact ⟨v', rfl, h2, fun _ => h1, fun e => (by cases e)⟩
        · simp only [List.getElem?_cons_succ, List.getElem?_cons_zero, Option.some.injEq] at hc
          subst hc
          have h4 := (hΦ 6 rfl ⟨⟨6, .data⟩, by simp, rfl, rfl⟩).1 rfl
          refine Oper.gives_fn rfl rfl rfl (enters_of Tryd.func42 (by kernel_rfl) rfl) ?_ rfl
          have h := HPO.out
          have hnW := HNR.out.mono hE
          have hcon := scale_plus_any (sums (parts s g.loads)) R (ν 6) _ W h4 hnW h.fa h.fb h.wa h.wb h.hl
          refine hcon.mono ?_
          rintro e W' ⟨v', rfl, h1, h2⟩
          exact ⟨v', rfl, h2, fun e => (by cases e), fun _ => h1⟩
      · have h5 := (hΦ 12 (by decide) rfl).2 rfl
        simp only [List.drop_succ_cons, List.drop_zero]
        generalize ν 12 = v12 at h5 ⊢
        obtain ⟨q12, c12, rfl⟩ := h5.len
        obtain ⟨XT, rfl⟩ := hE
        have hL2 := (HL1.out.exts (W' := (V.ext XV).ext XT) exq).putLat (i := i) (by omega) h5
        have H12 := Lib.hid h5
        clear h5
        have HL2 := Lib.hid hL2
        clear hL2
        clear hΦ
        go_wp2_with fail
        refine ⟨rfl, ?_⟩
        gi_wp2
        refine ⟨?_, ?_, ?_, ?_⟩
        · simp only [World.size_alloc]
          exact (HKF.out.trans ((KeepsOthers.of_exts ⟨XT, rfl⟩).from _)).trans (KeepsFrom.of_grownBy (grown_set _ (V.heap.size + 1 + 1 + 1) i _) (fun j e => by cases e; omega))
        · exact (HKS.out.trans (KeepsScale.of_exts (World.Exts.size exq) ⟨XT, rfl⟩)).trans ⟨(Below.refl _ _).setCell (by dsimp only; omega) _, fun _ => World.heap_set_other _ _ _ (by dsimp only; omega)⟩
        · exact World.Exts.below exq
        · rw [List.map_append, List.map_singleton, allOf_snoc, latOf_snoc]
          refine HL2.out.congr (fun m _ => ?_) (fun m _ => ?_)
          · dsimp only
            rw [HPS.out]
          · dsimp only [latStep]
            rw [HPS.out, HR.out]
      case mono2 => exact fun c v W W' h hE => h.mono hE
    case mono => exact fun c v W W' h hE => h.mono hE
  case done =>
    rintro D xs W hD hS ⟨hB, hL⟩ hK
    have hS2 : xs = (List.finRange U.length).reverse := hS
    subst hS2
    have hL2 := hL.congr (f' := fun m => ((U.map Prod.fst).map fun s => parts s g.loads).getD m []) (h' := fun m => restOf (((U.map Prod.fst).map fun s => parts s g.loads).drop m)) (fun m hm => allOf_fin' hpl hm) (fun m hm => latOf_fin' hpl (by omega))
    clear hL hS
    obtain ⟨XW, rfl⟩ : ∃ X : Ext V, W = V.ext X := ⟨⟨W, hB⟩, rfl⟩
    have hVV : V.Exts (V.ext XW) := ⟨XW, rfl⟩
    have hEV2 := hEV.trans hVV
    have hhV2 := HHV.out.mono hVV
    have hBU2 := HBU.out.mono hVV
    have g02 := hVV.cell g0
    have g12 := hVV.cell g1
    have g22 := hVV.cell g2
    have g32 := hVV.cell g3
    have g42 := hVV.cell g4
    have g52 := hVV.cell g5
    have g62 := hVV.cell g6
    have g72 := hVV.cell g7
    have tt2 := hVV.cell tt0
    have r02 := hVV.cell r0
    have r12 := hVV.cell r1
    have fr02 := (hVV.below.frozen (p := ⟨w.heap.size + 1 + 1 + 1, 0, none⟩) hLr.lt).trans fr0
    have fr12 := (hVV.below.frozen (p := ⟨w.heap.size + 1 + 1 + 1, 1, none⟩) hLr.lt).trans fr1
    have hrV : w.heap.size + 1 + 1 + 1 < V.heap.size := hLr.lt
    have hDV : D < (V.ext XW).heap.size := (Array.getElem?_eq_some_iff.1 hK).1
    simp only [World.size_alloc] at hD
    have HL2 := Lib.hid hL2
    clear hL2
    have HK := Lib.hid hK
    clear hK
    have HHV2 := Lib.hid hhV2
    clear hhV2
    have HBU2 := Lib.hid hBU2
    clear hBU2
    clear hB hVV g0 g1 g2 g3 g4 g5 g6 g7 tt0 r0 r1 fr0 fr1 HHV hLg hLt hLr hnn hnl hmk1 hmk3 hst
    generalize V.heap.size = b0 at *
    generalize V.ext XW = V2 at *
    clear XW HBU hEV
    have hLg := Lays.of_cell g02
    have hLt := Lays.of_cell tt2
    have hLr := Lays.of_cell r02
    have k0 := LaysAs.cell HL2.out.b0 0 _ rfl
    have k2 := LaysAs.cell HL2.out.b2 0 _ rfl
    have k4 := LaysAs.cell HL2.out.b4 0 _ rfl
    have hLk0 := Lays.of_cell k0
    have hLk2 := Lays.of_cell k2
    have hLk4 := Lays.of_cell k4
    obtain ⟨chF, rF, hgF, hrF1, hrF2⟩ := greedy_any HTO.out
    rw [HUS.out] at hgF
    have htb := total_bd HTO.out (by rw [HUS.out, List.length_map]; exact hul) h6 had
    have HGF := Lib.hid hgF
    clear hgF
    have hmm := @run_makeMap Tryd.prog
    go_wp2_with fail
    have hmade := World.ownsMap_made ((V2.alloc (.cells #[.slice none 0 0, .slice none 0 0] 64)).alloc (.cells #[.int .i64 (total - g.added), .int .i64 (total - g.added)] 25)) Tryd.prog 3 readSelf
    simp only [World.size_alloc] at hmade
    have hgs0 : GsAt V2.heap.size V2 (((V2.alloc (.cells #[.slice none 0 0, .slice none 0 0] 64)).alloc (.cells #[.int .i64 (total - g.added), .int .i64 (total - g.added)] 25)).alloc (.map #[] 0)) [] [] ⟨total - g.added, total - g.added⟩ (.slice none 0 0) :=
      ⟨exq, LaysAs.exts (laysAs_size V2 _ rfl) exq, LaysAs.exts (laysAs_size (V2.alloc _) _ (by simp)) exq, ⟨_, hmade, HoldsPairs.nil⟩, World.ownsRow_nil _ _ _ _⟩
    have HGS0 := Lib.hid hgs0
    clear hgs0
    clear hmade hmm
    go_loopw [101] (fun i wr => ∃ (k : Nat) (ch : List Part) (left : Span) (vt : Value), k ≤ U.length ∧ i = .int .i64 k ∧ Hid (greedy ⟨total - g.added, total - g.added⟩ ((U.map Prod.fst).map fun s => parts s g.loads) = grown ch (greedy left (((U.map Prod.fst).map fun s => parts s g.loads).drop k))) ∧ Hid (LeftS k left) ∧ Hid (ch.length = k) ∧ Hid (GsAt V2.heap.size V2 wr ((U.map Prod.fst).zip ch) ch left vt)) (fun i _ => U.length - (intOf i).toNat)
    case atStart => exact ⟨0, [], ⟨total - g.added, total - g.added⟩, .slice none 0 0, Nat.zero_le _, rfl, Lib.hid (grown_nil _).symm, Lib.hid ⟨Int.le_refl _, by dsimp only; omega, by dsimp only; omega⟩, Lib.hid rfl, Lib.hid (by rw [List.zip_nil_right]; exact HGS0.out)⟩
    case round =>
      obtain ⟨k, ch, left, vt, hk, rfl, HGR, HL, HLEN, HG⟩ := hrel
      obtain ⟨X6, hX6⟩ := HG.out.ext
      subst hX6
      have hleft := HL.out
      unfold LeftS at hleft
      obtain ⟨hl1, hl2, hl3⟩ := hleft
      have hlen1 : ch.length ≤ k := by have := HLEN.out; omega
      by_cases hlt2 : k < U.length
      ·
        obtain ⟨⟨s, tv⟩, hx⟩ := some_of_lt hlt2
        have hs : (U.map Prod.fst)[k]? = some s := by rw [List.getElem?_map, hx]; rfl
        have hPS : ((U.map Prod.fst).map fun s => parts s g.loads)[k]? = some (parts s g.loads) := by rw [List.getElem?_map, hs]; rfl
        have hmem := HUM.out _ (List.mem_of_getElem? hx)
        have htx := HTR.out _ hmem
        have hrs := HRT.out _ hmem
        dsimp only at htx hrs
        obtain ⟨q1, cp1, rfl⟩ := htx.len
        obtain ⟨pu, bu, ou, cpu, eu, hmu, hpu, hcu⟩ := HBU2.out.row.ex
        simp only [Value.slice.injEq] at eu
        obtain ⟨rfl, -, rfl⟩ := eu
        obtain ⟨rfl, hlu⟩ := hpu (by omega)
        have hcs := hcu k _ hx
        have c0 := hcs 0 _ rfl
        have c1 := hcs 1 _ rfl
        have c2 := hcs 2 _ rfl
        have c3 := hcs 3 _ rfl
        have c4 := hcs 4 _ rfl
        have c5 := hcs 5 _ rfl
        have c6 := hcs 6 _ rfl
        simp only [Nat.add_zero] at c0 c1 c2 c3 c4 c5 c6
        have hLc := Lays.of_cell c0
        obtain ⟨qa, ca, a0, -, har⟩ := HL2.out.d1.cell hlt2
        have hgd : ((U.map Prod.fst).map fun s => parts s g.loads).getD k [] = parts s g.loads := by rw [List.getD_eq_getElem?_getD, hPS]; rfl
        rw [hgd] at a0 har
        have hLa := Lays.of_cell a0
        obtain ⟨qn, cn, n0, -, hnr⟩ := HL2.out.d3.cell (m := k + 1) (by omega)
        have hLn := Lays.of_cell n0
        have hgood := parts_good s g.loads
        have hri := right_id hrs
        have hfr := zip_fresh HIDS.out (ch := ch) (s := s) (by rw [HLEN.out]; exact hs)
        have hzs := fun q => zip_snoc (U := U.map Prod.fst) (ch := ch) (s := s) q (by rw [HLEN.out]; exact hs)
        generalize hps : parts s g.loads = ps at hPS a0 har hgood hgd
        generalize hR : restOf (((U.map Prod.fst).map fun s => parts s g.loads).drop (k + 1)) = R at n0 hnr
        have hff : fitsB (((U.map Prod.fst).map fun s => parts s g.loads).drop (k + 1)) left = fun p => touches R (left.lo - p.sum.hi) (left.hi - p.sum.lo) := by funext p; unfold fitsB; rw [hR]
        obtain ⟨hf1, hf2⟩ | ⟨j, q, hq, hf1, hf2, hf3⟩ := firstAt_cases (fun p : Part => touches R (left.lo - p.sum.hi) (left.hi - p.sum.lo)) ps
        · exfalso
          have := greedy_miss ch hPS (by rw [hff]; exact hf2)
          rw [← HGR.out, HGF.out] at this
          cases this
        have hnx := greedy_hit ch hPS (by rw [hff]; exact hf2)
        rw [← HGR.out] at hnx
        have hqm := List.mem_of_getElem? hq
        have hqg := hgood q hqm
        have hls := leftS_step hgood h6 hqm HL.out
        obtain ⟨pa, ba, oa, cpa, ea, hma, hpa, hca⟩ := har.ex
        simp only [Value.slice.injEq] at ea
        obtain ⟨rfl, -, rfl⟩ := ea
        have hjl := lt_of_some hq
        obtain ⟨rfl, hlpa⟩ := hpa (by omega)
        have hcq := hca j q hq
        have x0 := hcq 0 _ rfl
        have x1 := hcq 1 _ rfl
        have x2 := hcq 2 _ rfl
        have x3 := hcq 3 _ rfl
        simp only [Nat.add_zero] at x0 x1 x2 x3
        have hLx := Lays.of_cell x0
        obtain ⟨d0, d1, d2, d3, z0, z1, z2, z3⟩ := HG.out.cells
        have hLd0 := Lays.of_cell d0
        have hLd2 := Lays.of_cell d2
        have hbig := HG.out.big
        obtain ⟨pv, cv, rfl⟩ := owns_len HG.out.row
        have hlen2 : (ch ++ [q]).length = k + 1 := by rw [List.length_append, HLEN.out]; rfl
        have hzz := hzs q
        have hkey : keyOf Tryd.prog 3 (.int .i64 s.id) = some (.int .i64 s.id) := Maps.keyOf_int_mk Tryd.underlying3 (WalkArith.wf_i64 (by omega))
        have HNX := Lib.hid hnx
        clear hnx
        have HLS := Lib.hid hls
        clear hls
        have HF1 := Lib.hid hf1
        clear hf1
        have HGOOD := Lib.hid hgood
        clear hgood
        have HNR := Lib.hid hnr
        clear hnr
        have HAR := Lib.hid har
        clear har
        have HLEN2 := Lib.hid hlen2
        clear hlen2
        have HZZ := Lib.hid hzz
        clear hzz
        have HFR := Lib.hid hfr
        clear hfr
        clear hx hs hPS hmem htx hcs hcu hpu hgd hps hR hff hf2 hf3 hq hca hcq hpa hzs
        have hD1 : Differ V2.heap.size (V2.heap.size + 1) := ⟨by omega⟩
        have hD2 : Differ (V2.heap.size + 1) V2.heap.size := ⟨by omega⟩
        go_wp2_with fail
        refine (IndexFunc_truth_any ps (fun p : Part => touches R (left.lo - p.sum.hi) (left.hi - p.sum.lo)) _ _ _ _ (HAR.out.mono exq) (enters_of Tryd.func45 (by kernel_rfl) rfl) (answers3 fun q' hq' W hW => scale_Truth_2_any q' R (.slice qn R.length cn) k (b0 + 1 + 1 + 1) (V2.heap.size + 1) (V2.ext X6).heap.size (b0 + 1 + 1 + 1 + 1) left W (U.length + 1) (U.length + 1) (by omega) (hW.cell (by simp [go_sem, k4])) (hW.cell (by simp [go_sem])) (by omega) (hW.cell (by simp [go_sem, n0])) (HNR.out.mono (World.Exts.trans exq hW)) (hW.cell (by simp [go_sem, d0])) (hW.cell (by simp [go_sem, d1])) (by omega) (by have h := HGOOD.out q' hq'; omega))).mono ?_
        rintro e w' ⟨rfl, X7, rfl⟩
        rw [HF1.out]
        have hG8 := GsAt.left (left' := leave left q) (Nat.le_refl _) (HG.out.exts (W' := ((World.ext _ X7).alloc (.cells #[.int .i64 q.gain, .int .i64 q.off, .int .i64 q.sum.lo, .int .i64 q.sum.hi] 114))) exq)
        have hb8 := hG8.big
        have HG8 := Lib.hid hG8
        clear hG8
        go_wp2_with (at_builtin; refine wpList_append1W (.tmp 133) (.tmp 136) elem_pair rfl rfl rfl HG8.out.row [.int .i64 q.gain, .int .i64 q.off] _ (by simp) rfl rfl ?h1 ?h2 ?h4 ?h3 ?_)
        case h1 => exact one_pair _ _
        case h2 => omega
        case h4 => decide
        case h3 => exact hb8
        intro v' w' hown' happ
        obtain ⟨y1, y2, y3, ⟨D, y4, y5⟩, y6⟩ := HG8.out.push (Nat.le_refl _) hown' happ
        obtain ⟨t0, t1⟩ := HG8.out.after happ
        have hLt0 := Lays.of_cell t0
        obtain ⟨pv2, cv2, rfl⟩ := owns_len hown'
        have hsX7 := World.size_ext_le _ X7
        simp only [World.size_alloc] at hsX7
        have hkeep := fun b (hb : (V2.ext X6).heap.size ≤ b) hlt => happ.block b hlt (fun e => by have := (HG.out.row.lt b e.symm).2; omega)
        have e18 : w'.cell? ⟨(V2.ext X6).heap.size + 1, 0, none⟩ = some (.int .i64 s.id) := (cell_of_block (hkeep _ (by omega) (by simp; omega))).trans (by simp [go_sem])
        have e20 : w'.cell? ⟨(World.ext _ X7).heap.size, 0, none⟩ = some (.int .i64 q.gain) := (cell_of_block (hkeep _ (by omega) (by simp))).trans (by simp [go_sem])
        have e21 : w'.cell? ⟨(World.ext _ X7).heap.size, 1, none⟩ = some (.int .i64 q.off) := (cell_of_block (hkeep _ (by omega) (by simp))).trans (by simp [go_sem])
        have hL18 := Lays.of_cell e18
        have hL20 := Lays.of_cell e20
        have hD3 : Differ V2.heap.size ((V2.ext X6).heap.size + 1) := ⟨by have := World.size_ext_le _ X6; omega⟩
        have hD4 : Differ V2.heap.size (World.ext _ X7).heap.size := ⟨by have := World.size_ext_le _ X6; omega⟩
        have HY1 := Lib.hid y1
        clear y1
        have HY2 := Lib.hid y2
        clear y2
        have HY3 := Lib.hid y3
        clear y3
        have HY4 := Lib.hid y4
        clear y4
        have HY5 := Lib.hid y5
        clear y5
        have HY6 := Lib.hid y6
        clear y6
        clear happ hown' hkeep hsX7
        go_wp2_with (at_mapUpdate; refine wpList_mapUpdate_own _ rfl _ _ _ 111 rfl 3 74 law_int Tryd.underlying111 readSelf _ _ D rfl HY4.out (by unfold maxLen; omega) _ _ _ rfl rfl hkey _ [] rfl ?_)
        intro w1 hown1 hg1
        have hT := GsAt.tune (q := q) (Nat.le_refl _) HY1.out HY2.out HY3.out HY5.out HY6.out HFR.out hown1 hg1
        rw [← HZZ.out] at hT
        have HTT := Lib.hid hT
        clear hT
        clear hown1 hg1
        go_wp2_with fail
        go_roundw
        case rel => exact ⟨k + 1, ch ++ [q], leave left q, _, by omega, by go_num, Lib.hid HNX.out, Lib.hid HLS.out, Lib.hid HLEN2.out, Lib.hid HTT.out⟩
        case measure => simp [intOf] <;> omega
      ·
        have hkn : k = U.length := by omega
        have hgr := HGR.out
        rw [hkn, greedy_end ch (by simp)] at hgr
        have hcr := HGF.out
        rw [hgr] at hcr
        obtain ⟨rfl, rfl⟩ : ch = chF ∧ left = rF := by simpa using hcr
        obtain ⟨htO, hlk0⟩ := truthOf_of hgr hrF1 hrF2
        have hcho := (greedy_spec (goodAll (U.map Prod.fst) g.loads) hgr).1
        have hfin : truthR (ts.map Prod.fst) g total = ((ch, (layB (total - g.added - sumLo (gathL ((U.map Prod.fst).zip ch) g.loads)) (gathL ((U.map Prod.fst).zip ch) g.loads)).1), 0) := by
          unfold truthR
          have hin : inb 0 10000000 total = true := by
            have h := total_in HIDS.out hgr hrF1 hrF2 h6
            simp [inb]; omega
          rw [if_pos HZ.out, if_pos hin, HUS.out, htO]; rfl
        have hVV : V2.Exts (V2.ext X6) := ⟨X6, rfl⟩
        have hgrk := hgr
        have HGRK := Lib.hid hgrk
        clear hgrk
        have hG3 := HG.out
        have hbig3 := hG3.big
        obtain ⟨pv, cv, rfl⟩ := owns_len hG3.row
        obtain ⟨d0, d1, d2, d3, z0, z1, z2, z3⟩ := hG3.cells
        obtain ⟨mh, DH, hh0, hh1, hhM, hhD⟩ := HHV2.out.ex
        obtain ⟨DT, hTM, hTD⟩ := hG3.map
        obtain ⟨pl, bl, ol, capl, el, hml, hpl2, hcl⟩ := (HG0.out.l.mono hEV2).ex
        simp only [Value.slice.injEq] at el
        obtain ⟨rfl, -, rfl⟩ := el
        have hwf := HG0.out.wf
        have hrV2 : w.heap.size + 1 + 1 + 1 < V2.heap.size := hLr.lt
        have hids2 := zip_ids HIDS.out ch
        have hchl := HLEN.out
        rw [hkn] at hchl
        have HFIN := Lib.hid hfin
        clear hfin
        have HCHO := Lib.hid hcho
        clear hcho
        have HG3 := Lib.hid hG3
        clear hG3
        have HHM := Lib.hid hhM
        clear hhM
        have HHD := Lib.hid hhD
        clear hhD
        have HTM := Lib.hid hTM
        clear hTM
        have HTD := Lib.hid hTD
        clear hTD
        have HCL := Lib.hid hcl
        clear hcl
        have HPL := Lib.hid hpl2
        clear hpl2
        have HWF := Lib.hid hwf
        clear hwf
        have HIDS2 := Lib.hid hids2
        clear hids2
        have HCHL := Lib.hid hchl
        clear hchl
        clear hkn hgr hcr htO HG HGR HGF HL HLEN hl1 hl2 hl3 hLk0 hLk2 hLk4 k0 k2 k4 hml
        have hLh := Lays.of_cell hh0
        have hLd2 := Lays.of_cell d2
        go_wp2_with fail
        have hsp0 : SpAt V2.heap.size (V2.ext X6).heap.size V2 (V2.ext X6) (((V2.ext X6).alloc (.cells #[.int .i64 (total - g.added)] 3)).alloc (.cells #[.slice none 0 0] 49)) (.slice pv ch.length cv) (.slice none 0 0) (.slice none 0 0) (total - g.added) [] [] :=
          ⟨exq, HG3.out.o.exts exq, LaysAs.exts (laysAs_size (V2.ext X6) _ rfl) exq, laysAs_size _ _ (by simp), World.ownsRow_nil _ _ _ _, World.ownsRow_nil _ _ _ _, fun b hb => by simp [Value.ownBlock] at hb, grown_exts exq⟩
        have HSP0 := Lib.hid hsp0
        clear hsp0
        go_loopw [152] (fun i wr => ∃ (k : Nat) (l : List Kr.Span) (vw vs : Value), k ≤ g.loads.length ∧ i = .int .i64 k ∧ Hid (l = gathL ((U.map Prod.fst).zip ch) (g.loads.take k)) ∧ Hid (SpAt V2.heap.size (V2.ext X6).heap.size V2 (V2.ext X6) wr (.slice pv ch.length cv) vw vs (total - g.added - sumLo l) l (l.map Kr.Span.lo))) (fun i _ => g.loads.length - (intOf i).toNat)
        case atStart => exact ⟨0, [], .slice none 0 0, .slice none 0 0, Nat.zero_le _, rfl, Lib.hid rfl, Lib.hid (by rw [show sumLo [] = 0 from rfl, Int.sub_zero]; exact HSP0.out)⟩
        case round =>
          obtain ⟨k3, l, vw, vs, hk3, rfl, HLS, HS⟩ := hrel
          have hspk := gathL_spOk HIDS.out HCHO.out k3
          rw [← HLS.out] at hspk
          have hslo := sumLo_bd hspk
          have hlk := hspk.1
          obtain ⟨Y, hY⟩ := HS.out.ext
          subst hY
          by_cases hlt3 : k3 < g.loads.length
          ·
            obtain ⟨rfl, hlp⟩ := HPL.out (by omega)
            obtain ⟨ld, hld⟩ := some_of_lt hlt3
            have hldm := List.mem_of_getElem? hld
            have hcs := HCL.out k3 ld hld
            have a0 := hcs 0 _ rfl
            have a1 := hcs 1 _ rfl
            simp only [Nat.add_zero] at a0 a1
            have hLa := Lays.of_cell a0
            obtain ⟨x, hxt, hxi, hxf⟩ := HLOAD.out ld hldm
            have hxU : x ∈ U := by rw [HUD.out]; exact List.mem_filter.2 ⟨hxt, by unfold usedB; rw [List.any_eq_true]; exact ⟨ld, hldm, by simpa using hxi.symm⟩⟩
            obtain ⟨m, hm⟩ := List.mem_iff_getElem?.1 hxU
            obtain ⟨s, sv2⟩ := x
            dsimp only at hxi
            have htx := HTR.out _ hxt
            have hrs := HRT.out _ hxt
            have hss := HSH.out _ hxt ld hldm hxi.symm
            dsimp only at htx hrs
            obtain ⟨q1, cp1, rfl⟩ := htx.len
            have hs : (U.map Prod.fst)[m]? = some s := by rw [List.getElem?_map, hm]; rfl
            obtain ⟨q, hq⟩ := some_of_lt (xs := ch) (k := m) (by have := HCHL.out; have := lt_of_some hm; omega)
            have hz := zip_at hs hq
            have hzm := List.mem_of_getElem? hz
            have hqp := parts_bound hrs (chosen_at HCHO.out hs hq)
            have hst2 := (right_bounds hrs).2.1
            have hsn := gathL_snoc ((U.map Prod.fst).zip ch) hld
            rw [← HLS.out, gath_uniq HIDS2.out hzm hxi] at hsn
            dsimp only at hsn
            have hwi := HWF.out ld hldm
            have hkey : keyOf Tryd.prog 3 (.int .i64 ld.scale) = some (.int .i64 ld.scale) := Maps.keyOf_int_mk Tryd.underlying3 hwi
            have hv1 : DH.atKey (.int .i64 ld.scale) (.held zeroScale) = .held (scaleVal (s, .slice q1 s.trials.length cp1)) := by
              rw [HHD.out.at_, byId_find, hxf]; rfl
            have hv2 : DT.atKey (.int .i64 ld.scale) (.held (.agg #[.int .i64 0, .int .i64 0])) = .held (tuneVal q) := by
              have h := tunedP_find HIDS2.out hzm
              dsimp only at h
              rw [hxi] at h
              rw [HTD.out.at_, h]
            have hk1 := fun Z : Ext ((V2.ext Y).alloc (.cells #[.int .i64 ld.scale, .int .i64 ld.shown] 46)) => look_self (ownsMap_exts HHM.out (W := World.ext _ Z) exq) law_int Tryd.underlying117 (zero_Scale _) hkey hv1
            have hTMw : (V2.ext Y).ownsMap Tryd.prog 3 readSelf (V2.heap.size + 1 + 1) ch.length DT := HTM.out.kept HS.out.grow (fun e => by have := Option.some.inj e; omega)
            have hk2 := fun Z : Ext ((V2.ext Y).alloc (.cells #[.int .i64 ld.scale, .int .i64 ld.shown] 46)) => look_self (ownsMap_exts hTMw (W := World.ext _ Z) exq) law_int Tryd.underlying111 (zero_pair _) hkey hv2
            unfold scaleVal at hk1
            unfold tuneVal at hk2
            dsimp only at hk1 hk2
            generalize hwt : wt s.step q.gain q.off ld.shown = y at hsn
            have hyb := wt_bound s.step q.gain q.off ld.shown
            rw [hwt] at hyb
            obtain ⟨e0, e1, e2, e3, f1, f2, f3⟩ := HS.out.cells
            have hbig := HS.out.big
            have hLe0 := Lays.of_cell e0
            have hLe2 := Lays.of_cell e2
            have hLe3 := Lays.of_cell e3
            obtain ⟨pvw, cvw, evw⟩ := owns_len HS.out.rw
            rw [List.length_map] at evw
            subst evw
            obtain ⟨pvs, cvs, rfl⟩ := owns_len HS.out.rs
            have hsp1 := gathL_spOk HIDS.out HCHO.out (k3 + 1)
            rw [hsn] at hsp1
            have hyb2 := hsp1.2 y (by simp)
            clear hsp1
            have HSN := Lib.hid hsn
            clear hsn
            have HWT := Lib.hid hwt
            clear hwt
            have HXI := Lib.hid hxi
            clear hxi
            clear hld hcs hxt hxf hxU hm hs hq hz hzm htx hrs hv1 hv2 hTMw hldm hwi HLS
            go_wp2_with fail
            refine wp_region_alloc 15 14 _ (.cells #[.int .i64 0, .int .i64 0] 25) (by kernel_rfl) (fun pp => by kernel_rfl) (by kernel_rfl) rfl rfl rfl (by decide) (fun a W => by kernel_rfl) ?_
            apply Exists.intro
            refine ⟨fun pp hpp T hT L hL => ?_, fun pp => ?_, fun pp Wp hpp hEp hop => ?_⟩
            · haveI := hT.2
              simp only [mvOp, List.set_cons_succ, List.set_cons_zero, List.take_succ_cons, List.take_zero]
              iterate 6 (go_big_quiet_step (fail))
              go_big_quiet_want
              refine quiet_lookup (v := .agg #[.int .i64 s.id, .int .i64 s.step, .int .i64 s.gain.lo, .int .i64 s.gain.hi, .int .i64 s.off.lo, .int .i64 s.off.hi, .slice q1 s.trials.length cp1]) rfl rfl rfl (fun W hW => by obtain ⟨Z, rfl⟩ := hW; exact hk1 Z.to) ?_
              simp only [Act.put, List.setIfInBounds_toArray, List.set_cons_succ, List.set_cons_zero]
              go_big_quiet_on
              iterate 3 (go_big_quiet_step (fail))
              go_big_quiet_want
              refine quiet_lookup (v := .agg #[.int .i64 q.gain, .int .i64 q.off]) rfl rfl rfl (fun W hW => by obtain ⟨Z, rfl⟩ := hW; exact hk2 Z.to) ?_
              simp only [Act.put, List.setIfInBounds_toArray, List.set_cons_succ, List.set_cons_zero]
              go_big_quiet_on
              repeat (go_big_quiet_step ((go_at_call 47; exact Calls.in_extT_eq hT (scale_weights_any s _ _ _ _ _ hst2 hqp.1 hqp.2 hss) (by rw [HWT.out]))))
              exact wpQuiet_nil hL
            · rfl
            simp only [List.drop_succ_cons, List.drop_zero]
            obtain ⟨X5, rfl⟩ := hEp
            have p0 := cells_block (cs := [.int .i64 0, .int .i64 0]) hop 0 _ rfl
            have p1 := cells_block (cs := [.int .i64 0, .int .i64 0]) hop 1 _ rfl
            have z0 := block_frozen (i := 0) hop
            have z1 := block_frozen (i := 1) hop
            have hLp := Lays.of_cell p0
            have hset : LaysAs (((World.ext _ X5).setCell ⟨pp, 0, none⟩ (.int .i64 y.lo)).setCell ⟨pp, 1, none⟩ (.int .i64 y.hi)) pp (.cells [.int .i64 y.lo, .int .i64 y.hi].toArray 25 (0, 0)) := LaysAs.set (LaysAs.set (cs := [.int .i64 0, .int .i64 0]) hop _) _
            have hpp2 : (V2.ext Y).heap.size ≤ pp := by simp at hpp; omega
            have hX63 := World.size_ext_le _ X6
            have hS1 := HS.out.exts (W' := ((World.ext _ X5).setCell ⟨pp, 0, none⟩ (.int .i64 y.lo)).setCell ⟨pp, 1, none⟩ (.int .i64 y.hi)) exq
            have hb1 := hS1.big
            have hBB : V2.heap.size < (V2.ext X6).heap.size := by have := HG3.out.big; omega
            have i1 := differ_lt (m := V2.heap.size) (n := (V2.ext X6).heap.size) hBB
            have i2 := differ_gt (m := (V2.ext X6).heap.size) (n := V2.heap.size) hBB
            have i3 := differ_lt (m := V2.heap.size) (n := (V2.ext X6).heap.size + 1) (by omega)
            have i4 := differ_gt (m := (V2.ext X6).heap.size + 1) (n := V2.heap.size) (by omega)
            have i5 := differ_lt (m := (V2.ext X6).heap.size) (n := (V2.ext X6).heap.size + 1) (by omega)
            have i6 := differ_gt (m := (V2.ext X6).heap.size + 1) (n := (V2.ext X6).heap.size) (by omega)
            have i7 := differ_lt (m := V2.heap.size) (n := pp) (by omega)
            have i8 := differ_gt (m := pp) (n := V2.heap.size) (by omega)
            have i9 := differ_lt (m := (V2.ext X6).heap.size) (n := pp) (by omega)
            have i10 := differ_gt (m := pp) (n := (V2.ext X6).heap.size) (by omega)
            have i11 := differ_lt (m := (V2.ext X6).heap.size + 1) (n := pp) (by omega)
            have i12 := differ_gt (m := pp) (n := (V2.ext X6).heap.size + 1) (by omega)
            have HSET := Lib.hid hset
            clear hset
            have HS1 := Lib.hid hS1
            clear hS1
            clear hop hpp hk1 hk2
            go_wp2_with (at_builtin; refine wpList_append1W (.tmp 170) (.tmp 172) elem_Span rfl rfl rfl HS1.out.rs [.int .i64 y.lo, .int .i64 y.hi] _ (by simp) rfl rfl ?h1 ?h2 ?h4 ?h3 ?_)
            case h1 => exact one_Span _
            case h2 => omega
            case h4 => decide
            case h3 => exact hb1
            intro v' w' hown' happ
            have hS2 := HS1.out.span (t := y) (Nat.le_refl _) hBB (Nat.le_refl _) hown' happ
            obtain ⟨m0, m1, m2, m3, m4, m5⟩ := HS1.out.afterS hBB happ
            have hP := (LaysAs.appended HSET.out happ (fun e => by have := (HS.out.rs.lt pp e).2; omega)).1
            have n0 := LaysAs.cell hP 0 _ rfl
            have n1 := LaysAs.cell hP 1 _ rfl
            have hLm0 := Lays.of_cell m0
            have hLm2 := Lays.of_cell m2
            have hLm4 := Lays.of_cell m4
            have hLn := Lays.of_cell n0
            have hb2 := hS2.big
            have hrwL := hS2.rw
            rw [List.length_map] at hrwL
            have hP2 := laysAs_other hP (a := ⟨(V2.ext X6).heap.size + 1, 0, none⟩) (by dsimp only; omega) v'
            obtain ⟨pvs2, cvs2, rfl⟩ := owns_len hown'
            have HS2 := Lib.hid hS2
            clear hS2
            have HRWL := Lib.hid hrwL
            clear hrwL
            have HP2 := Lib.hid hP2
            clear hP2
            clear happ hown' hP
            go_wp2_with (at_builtin; refine wpList_append1W (.tmp 175) (.tmp 178) elem_int1 rfl rfl rfl HRWL.out [.int .i64 y.lo] _ (by simp) rfl rfl ?h5 ?h6 ?h8 ?h7 ?_)
            case h5 => intro u hu; simp at hu; subst hu; rfl
            case h6 => omega
            case h8 => decide
            case h7 => exact hb2
            intro v2 w2 hown2 happ2
            have hS3 := HS2.out.weight (x := y.lo) (Nat.le_refl _) hBB (Nat.le_refl _) (by rw [List.length_map]; exact hown2) happ2
            obtain ⟨u0, u1, u2, u3, u4, u5⟩ := HS2.out.afterW hBB happ2
            have hP3 := (LaysAs.appended HP2.out happ2 (fun e => by have := (HS.out.rw.lt pp e).2; omega)).1
            have v0 := LaysAs.cell hP3 0 _ rfl
            have v1 := LaysAs.cell hP3 1 _ rfl
            have hLu0 := Lays.of_cell u0
            have hLu2 := Lays.of_cell u2
            have hLv := Lays.of_cell v0
            have hS4 := hS3.lack (lacks' := total - g.added - sumLo l - y.lo) (Nat.le_refl _) hBB (Nat.le_refl _)
            obtain ⟨pvw2, cvw2, rfl⟩ := owns_len hown2
            have HS4 := Lib.hid hS4
            clear hS4
            clear happ2 hown2 hP3 hS3
            go_wp2_with fail
            go_roundw
            case rel => exact ⟨k3 + 1, l ++ [y], _, _, by omega, by go_num, Lib.hid HSN.out.symm, Lib.hid (by rw [sumLo_snoc, List.map_append, ← Int.sub_sub]; exact HS4.out)⟩
            case measure => simp [intOf] <;> omega
          ·
            have hkn : k3 = g.loads.length := by omega
            have hls := HLS.out
            rw [hkn, List.take_length] at hls
            have hf := HFIN.out
            rw [← hls] at hf hlk0
            have hlen6 : l.length ≤ 6 := by omega
            have htin := total_in HIDS.out HGRK.out hrF1 hrF2 h6
            have hlkm : total - g.added - sumLo l ≤ 6000000 := by omega
            have hspk2 := Lib.hid hspk
            obtain ⟨pvw, cvw, evw⟩ := owns_len HS.out.rw
            rw [List.length_map] at evw
            subst evw
            obtain ⟨pvs, cvs, rfl⟩ := owns_len HS.out.rs
            have hvi : (layOf l (total - g.added - sumLo l) []).1 = l.map Kr.Span.lo := rfl
            have hrb : IsRow encSpan 2 (V2.ext Y) (.slice pvs l.length cvs) l := row_spans HS.out.rs
            have hBB : V2.heap.size < (V2.ext X6).heap.size := by have := HG3.out.big; omega
            have hb3 := HS.out.big
            obtain ⟨e0, e1, e2, e3, f1, f2, f3⟩ := HS.out.cells
            have hLe0 := Lays.of_cell e0
            have hLe2 := Lays.of_cell e2
            have hLe3 := Lays.of_cell e3
            have hKY : (V2.ext Y).heap[D]? = some (.deferred (some [])) := (HS.out.ext.below.block D hDV).trans HK.out
            have hwo : ∀ b, (Value.slice pvw l.length cvw).ownBlock = some b → b < (V2.ext Y).heap.size := fun b hb => (HS.out.rw.lt b hb).2
            have HF := Lib.hid hf
            clear hf
            have HWO := Lib.hid hwo
            clear hwo
            have HKY := Lib.hid hKY
            clear hKY
            have HRB := Lib.hid hrb
            clear hrb
            clear hls hkn HLS hspk hvi
            go_wp2_with (go_at_call 48; refine (Backward_Span_any _ _ _ _).mono ?_; rintro e w' ⟨rfl, rfl⟩)
            refine (wpIn_wide (n := 3)).1 ?_
            refine wpIn_range_pair (by omega) (gf := 70) (lb := #[.pointer (some ⟨(V2.ext Y).heap.size, 0, none⟩)]) rfl (enters_of Tryd.func70 (by kernel_rfl) rfl)
              (encs := encBackward_Span l) (e1 := fun i => .int .i64 (i.1 : Int)) (e2 := fun i => .agg #[.int .i64 (l.get i).lo, .int .i64 (l.get i).hi]) (fun _ => rfl)
              (Backward_Span_1_stopsK 2 l (.slice pvs l.length cvs) (V2.ext Y).heap.size _ ⟨HRB.out.mono exq, laysAs_size _ _ rfl⟩)
              (fun h k x => k (h x)) ?hKb
              (fun pre W => SpAt V2.heap.size (V2.ext X6).heap.size V2 (V2.ext X6) W (.slice pv ch.length cv) (.slice pvw l.length cvw) (.slice pvs l.length cvs) (layOf l (total - g.added - sumLo l) (pre.map Fin.val)).2 l (layOf l (total - g.added - sumLo l) (pre.map Fin.val)).1 ∧
                RowBox (fun t : Kr.Span => [.int .i64 t.lo, .int .i64 t.hi]) 2 49 (V2.ext Y).heap.size (.slice pvs l.length cvs) l W)
              ?hI2 ?h02 26 ?assign2 (fun W h => h) ?body2 ?done2
            case hKb =>
              rintro W lb o o' hlb ho hc hw ⟨h1, h2⟩
              exact ⟨h1.own (grownBy_putObj' W lb o') (fun r e => by cases e; exact ⟨o, ho, hc⟩), h2.keep (grownBy_putObj' W lb o') (fun r e => by cases e; exact ⟨o, ho, hc⟩)⟩
            case hI2 =>
              exact OwnFrom.and (fun pre X Y2 row hs hg hr => hs.own (Nat.le_refl _) hBB (Nat.le_refl _) hg (fun r e => ⟨by have := (hr r e).1; simp at this; omega, (hr r e).2⟩)) (Own.from (fun pre X Y2 row hs hg hr => ⟨hs.row.own hg hr, hs.box.keep hg hr⟩) _)
            case h02 => exact ⟨HS.out.exts exq, HRB.out.mono exq, laysAs_size _ _ rfl⟩
            case assign2 =>
              rintro lb x W K hK2
              gi_wp2
              exact hK2
            case body2 =>
              rintro lb pre ⟨i, hi⟩ W hlb ⟨hS, hR⟩ hlen
              have hok := layOf_ok hspk2.out hlk0 hlkm (pre.map Fin.val)
              rw [List.length_map] at hok
              obtain ⟨x, hx⟩ := some_of_lt hi
              have hget : l.get ⟨i, hi⟩ = x := (List.getElem?_eq_some_iff.1 hx).2
              have hgd : l.getD i ⟨0, 0⟩ = x := by rw [List.getD_eq_getElem?_getD, hx]; rfl
              rw [hget]
              have hst := layOf_snoc l (total - g.added - sumLo l) (pre.map Fin.val) i
              unfold layStep at hst
              rw [hgd] at hst
              have hxb := getD_span hspk2.out i
              rw [hgd] at hxb
              generalize hws : layOf l (total - g.added - sumLo l) (pre.map Fin.val) = st at *
              obtain ⟨ws, lk⟩ := st
              dsimp only at hok hst hS
              obtain ⟨hw1, hw2, hw3, hw4⟩ := hok
              obtain ⟨gw, cgw, egw, hgb, hgl⟩ := owns_form hS.rw (by omega)
              simp only [Value.slice.injEq] at egw
              obtain ⟨rfl, -, rfl⟩ := egw
              have hgY := HWO.out gw rfl
              obtain ⟨wx, wf⟩ := hS.at_ (i := i) hw1.symm (by omega)
              have hwb : 0 ≤ ws.getD i 0 ∧ ws.getD i 0 ≤ 7000000 := by
                rw [List.getD_eq_getElem?_getD, List.getElem?_eq_getElem (by omega)]
                have := hw4 ws[i] (List.getElem_mem _)
                simp only [Option.getD_some]
                omega
              generalize hwv : ws.getD i 0 = wv at wx hwb hst
              obtain ⟨e0', e1', e2', e3', f1', f2', f3'⟩ := hS.cells
              obtain ⟨ps, bs, os2, cs2, es, hms, hps, hcs2⟩ := hR.row.ex
              simp only [Value.slice.injEq] at es
              obtain ⟨rfl, -, rfl⟩ := es
              obtain ⟨rfl, hlps⟩ := hps (by omega)
              have hcs := hcs2 i x hx
              have c0 := hcs 0 _ rfl
              have c1 := hcs 1 _ rfl
              simp only [Nat.add_zero] at c0 c1
              have hLc := Lays.of_cell c0
              have hLe0' := Lays.of_cell e0'
              have hLe2' := Lays.of_cell e2'
              have hLe3' := Lays.of_cell e3'
              have hLwx := Lays.of_cell wx
              have hb3' := hS.big
              have HST := Lib.hid hst
              clear hst
              have HS5 := Lib.hid hS
              clear hS
              have HR5 := Lib.hid hR
              clear hR
              clear hx hget hgd hwv hws hw4 hcs hcs2 hps e0 e1 e2 e3 f1 f2 f3 hLe0 hLe2 hLe3
              have i1 := differ_lt (m := V2.heap.size) (n := gw) (by omega)
              have i2 := differ_gt (m := gw) (n := V2.heap.size) (by omega)
              have i3 := differ_lt (m := (V2.ext X6).heap.size) (n := gw) (by omega)
              have i4 := differ_gt (m := gw) (n := (V2.ext X6).heap.size) (by omega)
              dsimp only [Act.put]
              gi_wp2
              simp only [List.setIfInBounds_toArray, List.set_cons_succ, List.set_cons_zero]
              refine wpIn_region_ext_round (by kernel_rfl) (by kernel_rfl) (by kernel_rfl) ?_
              repeat (go_big_quiet_step (fail))
              refine wpQuiet_nil ?_
              rintro _ ⟨X9, rfl⟩
              gi_wp2
              have hS6 := ((HS5.out.exts (W' := W.ext X9) ⟨X9, rfl⟩).store (i := i) (x := wv + min lk (x.hi - x.lo)) (Nat.le_refl _) hBB (Nat.le_refl _) hw1.symm).lack (lacks' := lk - min lk (x.hi - x.lo)) (Nat.le_refl _) hBB (Nat.le_refl _)
              have hR6 : RowBox (fun t : Kr.Span => [.int .i64 t.lo, .int .i64 t.hi]) 2 49 (V2.ext Y).heap.size (.slice (some ⟨bs, os2, none⟩) l.length cvs) l (((W.ext X9).setCell ⟨gw, i, none⟩ (.int .i64 (wv + min lk (x.hi - x.lo)))).setCell ⟨(V2.ext X6).heap.size, 0, none⟩ (.int .i64 (lk - min lk (x.hi - x.lo)))) := by
                refine ⟨?_, ?_⟩
                · have h1 : RowOff (fun t : Kr.Span => [.int .i64 t.lo, .int .i64 t.hi]) 2 (W.ext X9) [gw] _ l := ⟨HR5.out.row.mono ⟨X9, rfl⟩, .inr (fun b hb e => by rw [List.mem_singleton.1 hb] at e; exact HS5.out.ne gw e rfl)⟩
                  have h2 : RowOff (fun t : Kr.Span => [.int .i64 t.lo, .int .i64 t.hi]) 2 _ [(V2.ext X6).heap.size] _ l := ⟨(h1.set (a := ⟨gw, i, none⟩) (by simp) (.int .i64 (wv + min lk (x.hi - x.lo)))).row, .inr (fun b hb => by rw [List.mem_singleton.1 hb]; exact owns_off HS5.out.rs (by omega))⟩
                  exact (h2.set (a := ⟨(V2.ext X6).heap.size, 0, none⟩) (by simp) _).row
                · exact laysAs_other (laysAs_other (HR5.out.box.exts ⟨X9, rfl⟩) (by dsimp only; omega) _) (by dsimp only; omega) _
              refine ⟨?_, fun _ => hR6, ?_, hR6⟩
              · simp only [World.size_alloc]
                exact ((KeepsOthers.of_exts ⟨X9, rfl⟩).from _).trans ((KeepsFrom.of_grownBy (grown_set _ gw i _) (fun j e => by cases e; omega)).trans (KeepsFrom.of_grownBy (grown_set _ (V2.ext X6).heap.size 0 _) (fun j e => by cases e; omega)))
              · rw [List.map_append, List.map_singleton, HST.out]
                exact hS6
            case done2 =>
              rintro D2 xs W hD2 hS3 ⟨hS, hR⟩ hK2
              have hS4 : xs = (List.finRange l.length).reverse := hS3
              subst hS4
              rw [layOf_fin] at hS
              obtain ⟨q0, q1, q2, q3, y1, y2, y3⟩ := hS.cells
              have hLq := Lays.of_cell q0
              have hLq2 := Lays.of_cell q2
              obtain ⟨Y6, rfl⟩ : ∃ Y6 : Ext V2, W = V2.ext Y6 := hS.ext
              have hKW : (V2.ext Y6).heap[D]? = some (.deferred (some [])) := (hS.ext.below.block D hDV).trans HK.out
              have hrt := (RowOff.grown (g := V2.heap.size) ⟨row_pairs HG3.out.row, .inr (fun b hb => by rw [List.mem_singleton.1 hb]; exact owns_off HG3.out.row (by omega))⟩ hS.grow).row
              have hrt1 := ((⟨hrt, .inr (fun b hb => by rw [List.mem_singleton.1 hb]; exact owns_off HG3.out.row (by omega))⟩ : RowOff (fun q : Part => [.int .i64 q.gain, .int .i64 q.off]) 2 (V2.ext Y6) [w.heap.size + 1 + 1 + 1] _ ch).set (a := ⟨w.heap.size + 1 + 1 + 1, 0, none⟩) (by simp) (.slice pv ch.length cv)).set (a := ⟨w.heap.size + 1 + 1 + 1, 1, none⟩) (by simp) (.slice pvw l.length cvw)
              have hrw1 := row_ints ((hS.rw.set (p := ⟨w.heap.size + 1 + 1 + 1, 0, none⟩) (by dsimp only; omega) (.slice pv ch.length cv)).set (p := ⟨w.heap.size + 1 + 1 + 1, 1, none⟩) (by dsimp only; omega) (.slice pvw l.length cvw))
              have hEW : w.Exts (((V2.ext Y6).setCell ⟨w.heap.size + 1 + 1 + 1, 0, none⟩ (.slice pv ch.length cv)).setCell ⟨w.heap.size + 1 + 1 + 1, 1, none⟩ (.slice pvw l.length cvw)) := World.Exts.setCell (World.Exts.setCell (hEV2.trans hS.ext) (by dsimp only; omega) _) (by dsimp only; omega) _
              have HS6 := Lib.hid hS
              clear hS
              have HRT1 := Lib.hid hrt1
              clear hrt1
              have HRW1 := Lib.hid hrw1
              clear hrw1
              have HEW := Lib.hid hEW
              clear hEW
              clear hrt
              simp only [World.size_alloc] at hD2
              go_wp2_with fail
              have hsY := HS6.out.ext.size
              have hDD : D < D2 := by have := HS.out.ext.size; omega
              have hKa : (((V2.ext Y6).setCell ⟨w.heap.size + 1 + 1 + 1, 0, none⟩ (.slice pv ch.length cv)).setCell ⟨w.heap.size + 1 + 1 + 1, 1, none⟩ (.slice pvw l.length cvw)).heap[D2]? = some (.deferred (some [])) := by
                rw [World.heap_set_other _ _ _ (by dsimp only; omega), World.heap_set_other _ _ _ (by dsimp only; omega)]; exact hK2
              have hKb : ((((V2.ext Y6).setCell ⟨w.heap.size + 1 + 1 + 1, 0, none⟩ (.slice pv ch.length cv)).setCell ⟨w.heap.size + 1 + 1 + 1, 1, none⟩ (.slice pvw l.length cvw)).putObj D2 (.deferred none)).heap[D]? = some (.deferred (some [])) := by
                rw [World.putObj_heap_other (by omega), World.heap_set_other _ _ _ (by dsimp only; omega), World.heap_set_other _ _ _ (by dsimp only; omega)]; exact hKW
              refine ⟨by simp, .inl ⟨D2, _, rfl, run_takeDeferred hKa, ⟨by simp, .inl ⟨D, _, rfl, run_takeDeferred hKb, ?_⟩⟩⟩⟩
              have k1 : ∀ r, some D2 = some r → ∃ o : Obj, (((V2.ext Y6).setCell ⟨w.heap.size + 1 + 1 + 1, 0, none⟩ (.slice pv ch.length cv)).setCell ⟨w.heap.size + 1 + 1 + 1, 1, none⟩ (.slice pvw l.length cvw)).heap[r]? = some o ∧ o.isCells = false := fun r e => by cases e; exact ⟨_, hKa, rfl⟩
              have k2' : ∀ r, some D = some r → ∃ o : Obj, ((((V2.ext Y6).setCell ⟨w.heap.size + 1 + 1 + 1, 0, none⟩ (.slice pv ch.length cv)).setCell ⟨w.heap.size + 1 + 1 + 1, 1, none⟩ (.slice pvw l.length cvw)).putObj D2 (.deferred none)).heap[r]? = some o ∧ o.isCells = false := fun r e => by cases e; exact ⟨_, hKb, rfl⟩
              have c0 : (((V2.ext Y6).setCell ⟨w.heap.size + 1 + 1 + 1, 0, none⟩ (.slice pv ch.length cv)).setCell ⟨w.heap.size + 1 + 1 + 1, 1, none⟩ (.slice pvw l.length cvw)).cell? ⟨w.heap.size + 1 + 1 + 1, 0, none⟩ = some (.slice pv ch.length cv) := by simp [go_sem, r02]
              have c1 : (((V2.ext Y6).setCell ⟨w.heap.size + 1 + 1 + 1, 0, none⟩ (.slice pv ch.length cv)).setCell ⟨w.heap.size + 1 + 1 + 1, 1, none⟩ (.slice pvw l.length cvw)).cell? ⟨w.heap.size + 1 + 1 + 1, 1, none⟩ = some (.slice pvw l.length cvw) := by simp [go_sem, r12]
              have c02 := cell_kept (cell_kept c0 (grownBy_putObj' _ D2 (.deferred none)) k1) (grownBy_putObj' _ D (.deferred none)) k2'
              have c12 := cell_kept (cell_kept c1 (grownBy_putObj' _ D2 (.deferred none)) k1) (grownBy_putObj' _ D (.deferred none)) k2'
              refine ⟨.tuple #[.agg #[.slice pv ch.length cv, .slice pvw l.length cvw], .int .i64 0], ?_, ⟨_, _, ch, _, 0, rfl, HF.out, (HRT1.out.row.own (grownBy_putObj' _ D2 (.deferred none)) k1).own (grownBy_putObj' _ D (.deferred none)) k2', (HRW1.out.own (grownBy_putObj' _ D2 (.deferred none)) k1).own (grownBy_putObj' _ D (.deferred none)) k2', .of ?_⟩⟩
              · simp [results, Tryd.results16, go_sem, c02, c12]
              · refine (HEW.out.below.grown (grownBy_putObj' _ D2 (.deferred none)) HEW.out.size (fun k e => by cases e; omega)).grown (grownBy_putObj' _ D (.deferred none)) ?_ (fun k e => by cases e; omega)
                simpa using HEW.out.size
end Go.Proofs.YtfjkiemjmnnbkaaDoor

/-
  Walks of package scale: Truth, all ways.
-/
namespace Go.Proofs.YtfjkiemjmnnbkaaDoor
open Go.RowKit Kr
set_option linter.unusedSimpArgs false

set_option maxRecDepth 4000 in
set_option maxHeartbeats 4000000 in
theorem scale_Truth_any (ts : List (Kr.Scale × Value)) (v : Value) (g : Gear) (lv rv sv : Value) (total : Int) (w : World) (hb : BayAt w v ts) (hg : GearAt w (g, lv, rv, sv)) :
    Calls Tryd.prog 16 #[.agg #[v], .agg #[lv, .int .i64 g.added, .int .i64 g.base, .int .i64 g.jitter, rv, sv, .int .i64 g.spread, .bool g.stamp], .int .i64 total] w fun e w' => ∃ v1 v2 t1 t2 er, e = .returned (.tuple #[.agg #[v1, v2], .int .i64 er]) ∧ truthR (ts.map Prod.fst) g total = ((t1, t2), er) ∧ IsRow (fun q : Part => [.int .i64 q.gain, .int .i64 q.off]) 2 w' v1 t1 ∧ IsRow (fun x : Int => [.int .i64 x]) 1 w' v2 t2 ∧ w.Exts w' := by
  have he : askErr ts [(g, lv, rv, sv)] = check (ts.map Prod.fst) g := by unfold askErr check; simp
  by_cases hz : check (ts.map Prod.fst) g = 0
  · cases hto : (totals (ts.map Prod.fst) g).any (fun s => inAll s.lo s.hi [total])
    · have hfin : truthR (ts.map Prod.fst) g total = (([], []), 6) := by
        unfold truthR
        rw [if_pos hz, truthOf_none hto]
        split <;> rfl
      obtain ⟨hz1, hz2⟩ := check_zero hz
      have hok := check_ok hz1 hz2
      have hrt : ∀ x ∈ ts, right x.1 = true := fun x hx => hok.rt _ (List.mem_map.2 ⟨x, hx, rfl⟩)
      have hsh : ∀ x ∈ ts, ∀ l ∈ g.loads, l.scale = x.1.id → -2000000 ≤ l.shown ∧ l.shown ≤ 2000000 := fun x hx => hok.sh _ (List.mem_map.2 ⟨x, hx, rfl⟩)
      have hn : ts.length ≤ 4 := by have := hok.few; rwa [List.length_map] at this
      have h6 := hok.l6
      have had := hok.ad
      rw [hz] at he
      obtain ⟨p, cap, hv⟩ := hb.row.len
      subst hv
      have hl1 := hg.l
      have hl2 := hg.r
      have hl3 := hg.s
      dsimp only at hl1 hl2 hl3
      obtain ⟨p1, cap1, rfl⟩ := hl1.len
      obtain ⟨p2, cap2, rfl⟩ := hl2.len
      obtain ⟨p3, cap3, rfl⟩ := hl3.len
      have HG := Lib.hid hg
      clear hg
      have HB := Lib.hid hb
      clear hb
      have HZ := Lib.hid hz
      clear hz
      have HTO := Lib.hid hto
      clear hto
      have HRT := Lib.hid hrt
      clear hrt
      have HSH := Lib.hid hsh
      clear hsh
      have HE := Lib.hid he
      clear he
      have HFIN := Lib.hid hfin
      clear hfin
      clear hl1 hl2 hl3 hz1 hz2 hok
      go_enter Tryd.func16, Tryd.ntmps16
      go_wp2_with (first
        | (go_at_call 29; refine (scale_asked_any ts _ [(g, _, _, _)] _ _ (HB.out.mono exq) (row_gear1 _ (g, _, _, _) _ (by simp)) (fun y hy => by rw [List.mem_singleton.1 hy]; exact HG.out.mono exq)).mono ?_; rintro e w' ⟨pp, rfl, hy, X2, rfl⟩; obtain ⟨_, bb, rfl, hh⟩ := hy HE.out; rw [HE.out]; have HH := Lib.hid hh; clear hh hy)
        | (go_at_call 30; refine (hall_totals_any ts _ g _ _ _ _ _ (HH.out.mono exq) (HG.out.mono exq) hn HRT.out h6 HSH.out had).mono ?_; rintro e w' ⟨vt, rfl, ht, X3, rfl⟩; obtain ⟨qt, ct, rfl⟩ := ht.len; have HT := Lib.hid ht; clear ht)
        | (go_at_call 37; refine (ContainsFunc_Span_any (totals (ts.map Prod.fst) g) (fun s => inAll s.lo s.hi [total]) _ _ _ _ (HT.out.mono exq) (enters_of Tryd.func38 (by kernel_rfl) rfl) (answers1 fun t ht W hW => scale_Truth_1_any t total _ W (hW.cell (by simp [go_sem])))).mono ?_; rintro e w' ⟨rfl, X4, rfl⟩; rw [HTO.out]))
      refine bodyPost_ret (v := .tuple #[.agg #[.slice none 0 0, .slice none 0 0], .int .i64 6]) (by simp [results, Tryd.results16, go_sem]) rfl ?_
      exact ⟨_, _, [], [], _, rfl, HFIN.out, IsRow.nil _, IsRow.nil _, exq⟩
    · exact callsIn_wide.1 (scale_Truth_in ts v g lv rv sv total w hb hg hz hto)
  · have hfin : truthR (ts.map Prod.fst) g total = (([], []), check (ts.map Prod.fst) g) := by unfold truthR; rw [if_neg hz]
    have hc := check_three (ts.map Prod.fst) g
    obtain ⟨p, cap, hv⟩ := hb.row.len
    subst hv
    have hl1 := hg.l
    have hl2 := hg.r
    have hl3 := hg.s
    dsimp only at hl1 hl2 hl3
    obtain ⟨p1, cap1, rfl⟩ := hl1.len
    obtain ⟨p2, cap2, rfl⟩ := hl2.len
    obtain ⟨p3, cap3, rfl⟩ := hl3.len
    have HG := Lib.hid hg
    clear hg
    have HB := Lib.hid hb
    clear hb
    clear hl1 hl2 hl3
    rcases hc with hc | hc | hc
    · exact absurd hc hz
    all_goals
      rw [hc] at hfin he
      have HE := Lib.hid he
      clear he
      have HFIN := Lib.hid hfin
      clear hfin
      clear hc hz
      go_enter Tryd.func16, Tryd.ntmps16
      go_wp2_with (go_at_call 29; refine (scale_asked_any ts _ [(g, _, _, _)] _ _ (HB.out.mono exq) (row_gear1 _ (g, _, _, _) _ (by simp)) (fun y hy => by rw [List.mem_singleton.1 hy]; exact HG.out.mono exq)).mono ?_; rintro e w' ⟨pp, rfl, -, X2, rfl⟩; rw [HE.out])
      first
        | (refine bodyPost_ret (v := .tuple #[.agg #[.slice none 0 0, .slice none 0 0], .int .i64 41]) (by simp [results, Tryd.results16, go_sem]) rfl ?_
           exact ⟨_, _, [], [], _, rfl, HFIN.out, IsRow.nil _, IsRow.nil _, exq⟩)
        | (refine bodyPost_ret (v := .tuple #[.agg #[.slice none 0 0, .slice none 0 0], .int .i64 40]) (by simp [results, Tryd.results16, go_sem]) rfl ?_
           exact ⟨_, _, [], [], _, rfl, HFIN.out, IsRow.nil _, IsRow.nil _, exq⟩)
end Go.Proofs.YtfjkiemjmnnbkaaDoor
