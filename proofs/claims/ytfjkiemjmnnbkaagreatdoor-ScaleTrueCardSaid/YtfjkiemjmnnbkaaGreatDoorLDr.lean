/-
  Several texts in one: see the heads of its parts.
-/
import Derived.Test.YtfjkiemjmnnbkaaGreatDoorPt

/-
  Walk of 'drawn' of the outright laws of layer 4.
-/
namespace Go.Proofs.YtfjkiemjmnnbkaaGreatDoor
open Go.RowKit Kr
set_option linter.unusedSimpArgs false

set_option maxRecDepth 100000 in
set_option maxHeartbeats 8000000 in
noncomputable def l04_drawn_any_c1 : { G : Prop // G → ∀ (ts : List (Kr.Scale × Value)) (v : Value) (by_ : List Int) (bv : Value) (w : World) (_ : BayAt w v ts) (_ : IsRow (fun x : Int => [.int .u32 x]) 1 w bv by_) (_ : ∀ x ∈ by_, 0 ≤ x ∧ x ≤ 4294967295) (_ : ts ≠ []) (_ : ts.length ≤ 8) (_ : ∀ x ∈ ts, right x.1 = true),
    Calls Tryz.prog 24 #[.agg #[v], bv] w fun e w' => ∃ v' ts' vt, e = .returned (.tuple #[.agg #[v'], vt]) ∧ BayAt w' v' ts' ∧ ts'.map Prod.fst = drawB (drawnD by_ (ts.map Prod.fst)) ∧ IsRow pairEnc 2 w' vt ((drawnD by_ (ts.map Prod.fst)).map Prod.snd) ∧ w.Exts w' ∧ (∀ x ∈ ts', RowT 95 w' x.2) ∧ RowT 59 w' v' ∧ RowT 61 w' vt } := by
  apply Subtype.mk
  case property =>
  intro hG
  have HG := Lib.hid hG
  clear hG
  intro ts v by_ bv w hrow hby hbb hne hn hr
  have ht : ∀ x ∈ ts, x.1.trials.length ≤ 1000 := fun x hx => by have := (right_bounds (hr x hx)).2.2.2.2.1; omega
  obtain ⟨p0, c0, rfl⟩ := hrow.row.len
  obtain ⟨pb, cb, rfl⟩ := hby.len
  have HB := Lib.hid hrow
  clear hrow
  have HBY := Lib.hid hby
  clear hby
  have HBB := Lib.hid hbb
  clear hbb
  have HT := Lib.hid ht
  clear ht
  have HRI := Lib.hid hr
  clear hr
  have HNE := Lib.hid hne
  clear hne
  go_enter Tryz.func24, Tryz.ntmps24
  go_wp2_with (go_at_call 44; refine (r04_TwinBay_new ts _ _ (HB.out.mono exq) (by omega) HT.out).mono ?_; rintro e w' ⟨v', ts', rfl, h1, h2, h3, h4, h5, h6⟩; (obtain ⟨qS, cS, eS⟩ := h1.row.len); subst eS; (have H2 := Lib.hid h2); (have H4 := Lib.hid h4); (have H5 := Lib.hid h5); (have H6 := Lib.hid h6); clear h1 h2 h4 h5 h6; (obtain ⟨X1, rfl⟩ := h3))
  have hsl : ts'.length = ts.length := by have h := congrArg List.length H2.out; simpa using h
  have hne2 : ts' ≠ [] := fun e => HNE.out (List.length_eq_zero_iff.1 (by rw [← hsl, e]; rfl))
  obtain ⟨g, cg, hv, hwg, hcg, hblk, -, htro⟩ := H6.out.resolve_left hne2
  simp only [Value.slice.injEq] at hv
  obtain ⟨rfl, -, rfl⟩ := hv
  have hty : RowT 59 _ _ := (H5.out.resolve_left hne2).resolve_left (fun h => by have := h g rfl; omega)
  obtain ⟨V, hV⟩ : ∃ V, (World.ext _ X1).setCell ⟨w.heap.size, 0, none⟩ (.slice (some ⟨g, 0, none⟩) ts'.length cS) = V := ⟨_, rfl⟩
  have hz1 := World.size_ext_le _ X1
  simp only [World.size_alloc] at hz1 hwg
  have hDR : DrAt w V V.heap.size g w.heap.size (w.heap.size + 1) (.slice (some ⟨g, 0, none⟩) ts'.length cS) (.slice none 0 0) ts' [] := by
    rw [← hV]
    obtain ⟨cs, fr, h9⟩ := hty g rfl
    obtain ⟨bs, k1, k2, k3, k4⟩ := htro.set (a := ⟨w.heap.size, 0, none⟩) (by dsimp only; omega) (.slice (some ⟨g, 0, none⟩) ts'.length cS)
    refine ⟨World.Exts.setCell exq (by dsimp only; omega) _, ?_, ?_, hblk.set_other (by dsimp only; omega) _, ⟨cs, fr, (World.heap_set_other _ _ _ (by dsimp only; omega)).trans h9⟩, ⟨bs, k1, k2, by simpa using k3, fun i x hx => k4 i x (lt_of_some hx) hx⟩, World.ownsRow_nil _ _ _ _, by omega, by omega, by simp⟩
    · exact LaysAs.set (cs := [.slice p0 ts.length c0]) (LaysAs.exts (LaysAs.exts (laysAs_size w _ rfl) ((World.Exts.refl _).alloc _)) ⟨X1, rfl⟩) _
    · exact (World.heap_set_other _ _ _ (by dsimp only; omega)).trans (LaysAs.exts (laysAs_size (w.alloc (.cells #[.slice p0 ts.length c0] 24)) (.cells #[.slice none 0 0] 24) (by simp)) ⟨X1, rfl⟩)
  rw [hV]
  have hids : ∀ x ∈ ts', right x.1 = true := fun x hx => by
    have h1 : x.1 ∈ ts.map Prod.fst := by rw [← H2.out]; exact List.mem_map.2 ⟨x, hx, rfl⟩
    obtain ⟨y, hy, e⟩ := List.mem_map.1 h1
    rw [← e]; exact HRI.out y hy
  have HIDS := Lib.hid hids
  clear hids
  have HDR := Lib.hid hDR
  clear hDR
  have HSL := Lib.hid hsl
  clear hsl
  clear hV hblk htro hty hz1 H6 H5 hne2
  clear H4 X1
  have htl : ts'.length ≤ 8 := by rw [HSL.out]; exact hn
  go_loopw [6, 16] (fun v6 i wr => ∃ (k : Nat) (vt : Value), k ≤ ts'.length ∧ i = .int .i64 k ∧ vt = v6 ∧ Hid (DrAt w wr V.heap.size g w.heap.size (w.heap.size + 1) (.slice (some ⟨g, 0, none⟩) ts'.length cS) v6 (mixL (drL by_ ts') ts' k) (((drawnD by_ (ts.map Prod.fst)).map Prod.snd).take k))) (fun _ i _ => ts'.length - (intOf i).toNat)
  case atStart => exact ⟨0, _, Nat.zero_le _, rfl, rfl, Lib.hid (by rw [mixL_zero]; exact HDR.out)⟩
  case round =>
    obtain ⟨k, vt, hk, rfl, rfl, HD⟩ := hrel
    clear HDR
    rcases Nat.lt_or_ge k ts'.length with hlt | hge
    rotate_left 1
    · have hkn : k = ts'.length := by omega
      have hlt : ¬ k < ts'.length := by omega
      have hD2 := HD.out
      rw [hkn, mixL_all (drL_len _ _), List.take_of_length_le (by rw [List.length_map, drawnD_len, List.length_map, HSL.out]; exact Nat.le_refl _)] at hD2
      have hfin := hD2.fin (drL_len _ _).symm hcg 0 (.slice (some ⟨g, 0, none⟩) ts'.length cS)
      have hdl : (drL by_ ts').map Prod.fst = drawB (drawnD by_ (ts.map Prod.fst)) := by rw [drL_fst, H2.out]
      have d2 := LaysAs.cell hD2.o2 0 _ rfl
      have d4 := LaysAs.cell hD2.o4 0 _ rfl
      have f4 : wr.frozen? ⟨w.heap.size + 1, 0, none⟩ = false := laysAs_frozen hD2.o4
      have nd2 := Lays.of_cell d2
      have nd4 := Lays.of_cell d4
      have HFIN := Lib.hid hfin
      clear hfin
      have HDL := Lib.hid hdl
      clear hdl
      clear hD2 HD hkn hge
      as_aux_lemma =>
      go_wp2_with fail
      refine bodyPost_ret (v := .tuple #[.agg #[.slice (some ⟨g, 0, none⟩) ts'.length cS], vt]) (by simp [results, Tryz.results24, go_sem, d4]) rfl ?_
      obtain ⟨h1, h2, h3, h4, h5, h6⟩ := HFIN.out
      exact ⟨_, _, _, rfl, h1, HDL.out, h2, h3, h4, h5, h6⟩
    obtain ⟨⟨s, tv⟩, hx⟩ := some_of_lt hlt
    have hxm := (mixL_at (T := drL by_ ts') (drL_len _ _) hk).trans hx
    have hml := mixL_len (drL_len by_ ts') hk
    have hmx : (drL by_ ts')[k]? = some (drX (drawnT by_ k s) (s, tv)) := drL_get hx
    have hTk : ((drawnD by_ (ts.map Prod.fst)).map Prod.snd)[k]? = some (drawnT by_ k s) := by
      have h1 : (ts.map Prod.fst)[k]? = some s := by rw [← H2.out, List.getElem?_map, hx]; rfl
      rw [List.getElem?_map, drawnD_get h1]; rfl
    obtain ⟨bs, k1, k2, k3, k4⟩ := HD.out.tr
    obtain ⟨o1, o2⟩ := k4 k _ hxm
    dsimp only at o1 o2
    obtain ⟨qt, ct, rfl⟩ := owns_len o1
    clear k1 k2 k3 k4 o1 o2
    have hEw := HD.out.ext
    have d2 := LaysAs.cell HD.out.o2 0 _ rfl
    have nd2 := Lays.of_cell d2
    have c0 := HD.out.bk.cell _ _ (flat_row (enc := scaleEnc) (size := 7) (fun _ => rfl) hxm (j := 0) rfl)
    have c1 := HD.out.bk.cell _ _ (flat_row (enc := scaleEnc) (size := 7) (fun _ => rfl) hxm (j := 1) rfl)
    have c2 := HD.out.bk.cell _ _ (flat_row (enc := scaleEnc) (size := 7) (fun _ => rfl) hxm (j := 2) rfl)
    have c3 := HD.out.bk.cell _ _ (flat_row (enc := scaleEnc) (size := 7) (fun _ => rfl) hxm (j := 3) rfl)
    have c4 := HD.out.bk.cell _ _ (flat_row (enc := scaleEnc) (size := 7) (fun _ => rfl) hxm (j := 4) rfl)
    have c5 := HD.out.bk.cell _ _ (flat_row (enc := scaleEnc) (size := 7) (fun _ => rfl) hxm (j := 5) rfl)
    have c6 := HD.out.bk.cell _ _ (flat_row (enc := scaleEnc) (size := 7) (fun _ => rfl) hxm (j := 6) rfl)
    simp only [Nat.add_zero] at c0
    have nS := Lays.of_cell c0
    have hsr := HIDS.out _ (List.mem_of_getElem? hx)
    dsimp only at hsr
    obtain ⟨hid, hst, hgn, hof, h6, -⟩ := right_bounds hsr
    obtain ⟨hgn1, hgn2, hgn3⟩ := hgn
    obtain ⟨hof1, hof2, hof3⟩ := hof
    have hch1 := chooseL_bd HBB.out (2 * k)
    have hch2 := chooseL_bd HBB.out (2 * k + 1)
    have hok : TuneOk s (drawnT by_ k s) := drawnT_ok hsr
    unfold TuneOk at hok
    have hx1 : (drawnT by_ k s).1 = s.gain.lo + chooseL by_ (2 * k) % (s.gain.hi - s.gain.lo + 1) := rfl
    have hx2 : (drawnT by_ k s).2 = s.off.lo + chooseL by_ (2 * k + 1) % (s.off.hi - s.off.lo + 1) := rfl
    generalize hr1 : chooseL by_ (2 * k) = r1 at hch1 hx1
    generalize hr2 : chooseL by_ (2 * k + 1) = r2 at hch2 hx2
    have a1 : IntKind.i64.wrap (2 * (k : Int)) = 2 * (k : Int) := IntWalk.i64_in _ (by omega)
    have a2 : IntKind.i64.wrap (2 * (k : Int) + 1) = 2 * (k : Int) + 1 := IntWalk.i64_in _ (by omega)
    have e1 : IntKind.i64.wrap (s.gain.hi - s.gain.lo) = s.gain.hi - s.gain.lo := IntWalk.i64_in _ (by omega)
    have e2 : IntKind.i64.wrap (s.gain.hi - s.gain.lo + 1) = s.gain.hi - s.gain.lo + 1 := IntWalk.i64_in _ (by omega)
    have e3 : r1.tmod (s.gain.hi - s.gain.lo + 1) = r1 % (s.gain.hi - s.gain.lo + 1) := Int.tmod_eq_emod_of_nonneg hch1.1
    have e4 : IntKind.i64.wrap (s.gain.lo + r1 % (s.gain.hi - s.gain.lo + 1)) = (drawnT by_ k s).1 := by rw [← hx1]; exact IntWalk.i64_in _ (by omega)
    have e5 : (s.gain.hi - s.gain.lo + 1 == 0) = false := beq_eq_false_iff_ne.2 (by omega)
    have f1 : IntKind.i64.wrap (s.off.hi - s.off.lo) = s.off.hi - s.off.lo := IntWalk.i64_in _ (by omega)
    have f2 : IntKind.i64.wrap (s.off.hi - s.off.lo + 1) = s.off.hi - s.off.lo + 1 := IntWalk.i64_in _ (by omega)
    have f3 : r2.tmod (s.off.hi - s.off.lo + 1) = r2 % (s.off.hi - s.off.lo + 1) := Int.tmod_eq_emod_of_nonneg hch2.1
    have f4 : IntKind.i64.wrap (s.off.lo + r2 % (s.off.hi - s.off.lo + 1)) = (drawnT by_ k s).2 := by rw [← hx2]; exact IntWalk.i64_in _ (by omega)
    have f5 : (s.off.hi - s.off.lo + 1 == 0) = false := beq_eq_false_iff_ne.2 (by omega)
    clear hx1 hx2
    have HR1 := Lib.hid hr1
    clear hr1
    have HR2 := Lib.hid hr2
    clear hr2
    have HXM := Lib.hid hxm
    clear hxm
    have HML := Lib.hid hml
    clear hml
    have HMX := Lib.hid hmx
    clear hmx
    have HTK := Lib.hid hTk
    clear hTk
    have HX := Lib.hid hx
    clear hx
    generalize drawnT by_ k s = t at *
    obtain ⟨x, y⟩ := t
    dsimp only at hok e4 f4
    go_upto_region 7 with (fail)
    refine wp_region_alloc 49 48 _ (.cells #[.int .i64 0, .int .i64 0] 61) (by kernel_rfl) (fun pp => by kernel_rfl) (by kernel_rfl) rfl rfl rfl (by decide) (fun a W => by kernel_rfl) ?_
    apply Exists.intro
    refine ⟨fun pp hpp T hT L hL => ?_, fun pp => ?_, fun pp Wp hpp hEp hop => ?_⟩
    · haveI := hT.2
      simp only [mvOp, List.set_cons_succ, List.set_cons_zero, List.take_succ_cons, List.take_zero]
      repeat (go_big_quiet_step ((go_at_call 25; first | exact Calls.in_extT_eq hT (l04_choose_at by_ _ (2 * k) _ _ (HBY.out.mono (hEw.trans ⟨_, rfl⟩)) HBB.out (by omega) (by omega)) (by rw [HR1.out]) | exact Calls.in_extT_eq hT (l04_choose_at by_ _ (2 * k + 1) _ _ (HBY.out.mono (hEw.trans ⟨_, rfl⟩)) HBB.out (by omega) (by omega)) (by rw [HR2.out]))))
      exact wpQuiet_nil hL
    · rfl
    simp only [List.drop_succ_cons, List.drop_zero]
    obtain ⟨X5, rfl⟩ := hEp
    clear a1 a2 e1 e2 e3 e4 e5 f1 f2 f3 f4 f5
    have p0 := cells_block (cs := [.int .i64 0, .int .i64 0]) hop 0 _ rfl
    have p1 := cells_block (cs := [.int .i64 0, .int .i64 0]) hop 1 _ rfl
    have q0 := block_frozen (i := 0) hop
    have q1 := block_frozen (i := 1) hop
    have nq0 := Lays.of_cell p0
    have hppw := hpp
    have hlt9 := HD.out.tu
    go_wp2_with fail
    obtain ⟨Z, hZ⟩ : ∃ Z, ((World.ext _ X5).setCell ⟨pp, 0, none⟩ (.int .i64 x)).setCell ⟨pp, 1, none⟩ (.int .i64 y) = Z := ⟨_, rfl⟩
    have hEZ : wr.Exts Z := by rw [← hZ]; exact World.Exts.setCell (World.Exts.setCell ⟨X5, rfl⟩ hpp _) hpp _
    have z0 : Z.cell? ⟨pp, 0, none⟩ = some (.int .i64 x) := by rw [← hZ]; simp [go_sem, p0, p1]
    have z1 : Z.cell? ⟨pp, 1, none⟩ = some (.int .i64 y) := by rw [← hZ]; simp [go_sem, p0, p1]
    rw [hZ]
    have hDZ := HD.out.exts hEZ
    have hgt : ∀ b, (Value.slice qt s.trials.length ct).ownBlock = some b → b ≠ pp := fun b hb e => by
      obtain ⟨bs, k1, k2, k3, k4⟩ := HD.out.tr
      have h1 := (k4 k _ HXM.out).1.lt b hb
      omega
    have HDZ := Lib.hid hDZ
    clear hDZ
    have HGT := Lib.hid hgt
    clear hgt
    clear hZ hop p0 p1 q0 q1 hppw hlt9 d2 nd2 c0 c1 c2 c3 c4 c5 c6 nS
    have npp := Lays.of_cell z0
    have hTl : (drawS (x, y) s).trials.length = s.trials.length := by simp [drawS]
    have HTL := Lib.hid hTl
    clear hTl
    clear hEZ hEw HD hpp
    clear nq0 X5
    rename_i i9_1_1 i9_1_2 i9_1_3 i9_1_4 i9_1_5 i9_1_6 i9_1_7 i9_1_8
    revert ts by_ w hn p0 c0 pb cb HB HBY HBB HT HRI HNE i9_1_1 ts' cS H2 i9_1_2 i9_1_3 g hcg V hwg HIDS HSL htl wr u7 u8 u9 u10 u17 u18 u19 u20 u21 u22 u23 u24 u25 u26 u27 u28 u29 u30 u31 u32 u33 u34 u35 u36 u37 u38 u39 u40 u41 u42 u43 u44 u45 u46 u47 u48 u49 u50 u51 u52 u53 u54 u55 u56 u57 u58 u59 u60 u61 u62 u63 u64 u65 u66 u67 u68 u69 u70 u71 u72 u73 u74 u75 u76 u77 u78 u79 u80 u81 u82 u83 u84 u85 u86 u87 u88 u89 u90 u91 u92 u93 u94 u95 u96 u97 u98 u99 u100 u101 u102 u103 u104 k vt hk hlt s bs qt ct hsr hid hst h6 hgn1 hgn2 hgn3 hof1 hof2 hof3 r1 hch1 r2 hch2 HR1 HR2 HXM HML HX x y hok HMX HTK i9_1_4 i9_1_5 i9_1_6 pp i9_1_7 i9_1_8 Z z0 z1 HDZ HGT npp HTL
    exact HG.out
end Go.Proofs.YtfjkiemjmnnbkaaGreatDoor

/-
  Walk of 'drawn' of the outright laws of layer 4.
-/
namespace Go.Proofs.YtfjkiemjmnnbkaaGreatDoor
open Go.RowKit Kr
set_option linter.unusedSimpArgs false

set_option maxRecDepth 100000 in
set_option maxHeartbeats 8000000 in
theorem l04_drawn_any_last : l04_drawn_any_c1.val := by
  intro ts by_ w hn p0 c0 pb cb HB HBY HBB HT HRI HNE i9_1_1 ts' cS H2 i9_1_2 i9_1_3 g hcg V hwg HIDS HSL htl wr u7 u8 u9 u10 u17 u18 u19 u20 u21 u22 u23 u24 u25 u26 u27 u28 u29 u30 u31 u32 u33 u34 u35 u36 u37 u38 u39 u40 u41 u42 u43 u44 u45 u46 u47 u48 u49 u50 u51 u52 u53 u54 u55 u56 u57 u58 u59 u60 u61 u62 u63 u64 u65 u66 u67 u68 u69 u70 u71 u72 u73 u74 u75 u76 u77 u78 u79 u80 u81 u82 u83 u84 u85 u86 u87 u88 u89 u90 u91 u92 u93 u94 u95 u96 u97 u98 u99 u100 u101 u102 u103 u104 k vt hk hlt s bs qt ct hsr hid hst h6 hgn1 hgn2 hgn3 hof1 hof2 hof3 r1 hch1 r2 hch2 HR1 HR2 HXM HML HX x y hok HMX HTK i9_1_4 i9_1_5 i9_1_6 pp i9_1_7 i9_1_8 Z z0 z1 HDZ HGT npp HTL
  go_loopw [76] (fun i wr => ∃ j : Nat, j ≤ s.trials.length ∧ i = .int .i64 j ∧ Hid (DrAt w wr V.heap.size g w.heap.size (w.heap.size + 1) (.slice (some ⟨g, 0, none⟩) ts'.length cS) vt ((mixL (drL by_ ts') ts' k).set k ({ s with trials := mixL (drawS (x, y) s).trials s.trials j }, .slice qt s.trials.length ct)) (((drawnD by_ (ts.map Prod.fst)).map Prod.snd).take k)) ∧ wr.cell? ⟨pp, 0, none⟩ = some (.int .i64 x) ∧ wr.cell? ⟨pp, 1, none⟩ = some (.int .i64 y) ∧ Lays wr pp) (fun i _ => s.trials.length - (intOf i).toNat)
  case atStart => exact ⟨0, Nat.zero_le _, rfl, Lib.hid (by rw [mixL_zero, set_same HXM.out]; exact HDZ.out), z0, z1, npp⟩
  case round =>
    clear z0 z1 npp HDZ
    obtain ⟨j, hj, rfl, HE, z0, z1, npp⟩ := hrel
    by_cases hlt2 : j < s.trials.length
    ·
      as_aux_lemma =>
      obtain ⟨r, hrj⟩ := some_of_lt hlt2
      have hrm := (mixL_at (T := (drawS (x, y) s).trials) (O := s.trials) HTL.out hj).trans hrj
      have hrx : (drawS (x, y) s).trials[j]? = some ⟨r.weight, readAt s.step r.weight x y⟩ := by simp [drawS, hrj]
      have hml2 : (mixL (drawS (x, y) s).trials s.trials j).length = s.trials.length := mixL_len HTL.out hj
      have hxs : ((mixL (drL by_ ts') ts' k).set k (({ s with trials := mixL (drawS (x, y) s).trials s.trials j } : Kr.Scale), Value.slice qt s.trials.length ct))[k]? = some ({ s with trials := mixL (drawS (x, y) s).trials s.trials j }, .slice qt s.trials.length ct) := List.getElem?_set_self (by rw [HML.out]; exact hlt)
      obtain ⟨bs, k1, k2, k3, k4⟩ := HE.out.tr
      obtain ⟨o1, o2⟩ := k4 k _ hxs
      dsimp only at o1 o2
      rw [hml2] at o1
      obtain ⟨gt, cg2, hv, -, -⟩ := owns_form o1 (by omega)
      simp only [Value.slice.injEq] at hv
      obtain ⟨rfl, -, rfl⟩ := hv
      have hgp := HGT.out gt rfl
      have d2 := LaysAs.cell HE.out.o2 0 _ rfl
      have nd2 := Lays.of_cell d2
      have c0 := HE.out.bk.cell _ _ (flat_row (enc := scaleEnc) (size := 7) (fun _ => rfl) hxs (j := 0) rfl)
      have c1 := HE.out.bk.cell _ _ (flat_row (enc := scaleEnc) (size := 7) (fun _ => rfl) hxs (j := 1) rfl)
      have c2 := HE.out.bk.cell _ _ (flat_row (enc := scaleEnc) (size := 7) (fun _ => rfl) hxs (j := 2) rfl)
      have c3 := HE.out.bk.cell _ _ (flat_row (enc := scaleEnc) (size := 7) (fun _ => rfl) hxs (j := 3) rfl)
      have c4 := HE.out.bk.cell _ _ (flat_row (enc := scaleEnc) (size := 7) (fun _ => rfl) hxs (j := 4) rfl)
      have c5 := HE.out.bk.cell _ _ (flat_row (enc := scaleEnc) (size := 7) (fun _ => rfl) hxs (j := 5) rfl)
      have c6 := HE.out.bk.cell _ _ (flat_row (enc := scaleEnc) (size := 7) (fun _ => rfl) hxs (j := 6) rfl)
      simp only [Nat.add_zero] at c0
      have nS := Lays.of_cell c0
      have t0 : wr.cell? ⟨gt, j * 2, none⟩ = some (.int .i64 r.weight) := (o1.cellAt (j * 2 + 0) (by omega)).trans (flat_row (enc := trialEnc) (size := 2) (fun _ => rfl) hrm (j := 0) rfl)
      have t1 : wr.cell? ⟨gt, j * 2 + 1, none⟩ = some (.int .i64 r.shown) := (o1.cellAt (j * 2 + 1) (by omega)).trans (flat_row (enc := trialEnc) (size := 2) (fun _ => rfl) hrm (j := 1) rfl)
      have f1 := o1.frozenAt (j * 2 + 1)
      have nT := Lays.of_cell t0
      have hd1 : Differ gt pp := ⟨hgp⟩
      have hwb := right_trial hsr (List.mem_of_getElem? hrj)
      have w4 : (0 : Int) ≤ (j : Int) := by omega
      have w5 : (j : Int) < (s.trials.length : Int) := by omega
      have HRM := Lib.hid hrm
      clear hrm
      have HRX := Lib.hid hrx
      clear hrx
      have HML2 := Lib.hid hml2
      clear hml2
      have HXS := Lib.hid hxs
      clear hxs
      clear hrj k1 k2 k3 k4 o1 o2
      go_upto_region 11 with (fail)
      refine wp_region_ext_tail 20 (by kernel_rfl) (by kernel_rfl) ?_
      simp only [List.take_succ_cons, List.take_zero, List.drop_succ_cons, List.drop_zero]
      repeat (go_big_quiet_step ((go_at_call 26; exact Calls.in_ext (l04_reads_any s _ x y r.weight _ hst (by omega) (by omega) hwb))))
      refine wpQuiet_nil ?_
      rintro _ ⟨X, rfl⟩
      go_wp2_with fail
      go_roundw
      case rel => exact ⟨j + 1, by omega, by go_num, Lib.hid (by
        have h := (HE.out.exts (W' := World.ext wr X) ⟨X, rfl⟩).put (m := readAt s.step r.weight x y) HXS.out HML2.out.symm HRM.out
        dsimp only at h
        rw [List.set_set, mixL_set HTL.out HRX.out] at h
        exact h), by simp [go_sem, z0], by simp [go_sem, z1], inferInstance⟩
      case measure => simp [intOf]; omega
    · have hjn : j = s.trials.length := by omega
      have hE2 := HE.out
      rw [hjn, mixL_all HTL.out] at hE2
      have hE3 : DrAt w wr V.heap.size g w.heap.size (w.heap.size + 1) (.slice (some ⟨g, 0, none⟩) ts'.length cS) vt (mixL (drL by_ ts') ts' (k + 1)) (((drawnD by_ (ts.map Prod.fst)).map Prod.snd).take k) := by
        rw [← mixL_set (drL_len _ _) HMX.out]; exact hE2
      have HE3 := Lib.hid hE3
      clear hE3
      clear hE2 HE
      have hTl9 : ((((drawnD by_ (ts.map Prod.fst)).map Prod.snd).take k)).length = k := by rw [List.length_take, List.length_map, drawnD_len, List.length_map, ← HSL.out]; omega
      have hown := HE3.out.tu
      have hVw := HE3.out.ext
      have HTL9 := Lib.hid hTl9
      clear hTl9
      have HOWN := Lib.hid hown
      clear hown
      go_wp2_with (at_builtin; refine wpList_append1W (.tmp 100) (.tmp 102) elem_pair rfl rfl rfl HOWN.out [.int .i64 x, .int .i64 y] _ (by simp) rfl rfl ?h1 ?h2 ?h4 ?h3 ?_)
      case h1 => intro u hu; simp at hu; rcases hu with rfl | rfl <;> rfl
      case h2 => rw [HTL9.out]; omega
      case h4 => decide
      case h3 => exact HE3.out.bw
      intro v' w' hown' happ
      have hBw : w.heap.size ≤ V.heap.size := by
        obtain ⟨bs, k1, k2, k3, -⟩ := HE3.out.tr
        have h1 := chain_le2 k1 (Nat.zero_le _) (Nat.le_refl _)
        have h2 := HE3.out.wg
        omega
      have hpush := HE3.out.push (t := (x, y)) hBw (by simpa using hown') happ
      rw [← take_snoc HTK.out] at hpush
      have HPU := Lib.hid hpush
      clear hpush
      clear hown' happ HE3 HOWN HTL9 hVw
      go_wp2_with fail
      go_roundw
      case rel => exact ⟨k + 1, _, by omega, by go_num, rfl, Lib.hid HPU.out⟩
      case measure => simp [intOf]; omega
theorem l04_drawn_any (ts : List (Kr.Scale × Value)) (v : Value) (by_ : List Int) (bv : Value) (w : World) (hrow : BayAt w v ts) (hby : IsRow (fun x : Int => [.int .u32 x]) 1 w bv by_) (hbb : ∀ x ∈ by_, 0 ≤ x ∧ x ≤ 4294967295) (hne : ts ≠ []) (hn : ts.length ≤ 8) (hr : ∀ x ∈ ts, right x.1 = true) :
    Calls Tryz.prog 24 #[.agg #[v], bv] w fun e w' => ∃ v' ts' vt, e = .returned (.tuple #[.agg #[v'], vt]) ∧ BayAt w' v' ts' ∧ ts'.map Prod.fst = drawB (drawnD by_ (ts.map Prod.fst)) ∧ IsRow pairEnc 2 w' vt ((drawnD by_ (ts.map Prod.fst)).map Prod.snd) ∧ w.Exts w' ∧ (∀ x ∈ ts', RowT 95 w' x.2) ∧ RowT 59 w' v' ∧ RowT 61 w' vt :=
  (l04_drawn_any_c1.property l04_drawn_any_last) ts v by_ bv w hrow hby hbb hne hn hr
end Go.Proofs.YtfjkiemjmnnbkaaGreatDoor
