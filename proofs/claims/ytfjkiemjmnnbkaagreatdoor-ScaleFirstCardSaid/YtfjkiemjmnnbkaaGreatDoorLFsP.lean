/-
  Several texts in one: see the heads of its parts.
-/
import Derived.Test.YtfjkiemjmnnbkaaGreatDoorAm
import Derived.Test.YtfjkiemjmnnbkaaGreatDoorRy
import Derived.Test.YtfjkiemjmnnbkaaGreatDoorHp
import Derived.Test.YtfjkiemjmnnbkaaGreatDoorPt
import Derived.Test.YtfjkiemjmnnbkaaGreatDoorWdG
import Derived.Test.YtfjkiemjmnnbkaaGreatDoorTw
import Derived.Test.YtfjkiemjmnnbkaaGreatDoorFsG
import Derived.Deep.DeepCutAuto

/-
  The law ScaleFirst: its walk.
-/
namespace Go.Proofs.YtfjkiemjmnnbkaaGreatDoor
open Go.RowKit Go.Maps Kr
set_option linter.unusedSimpArgs false

set_option maxRecDepth 100000 in
set_option maxHeartbeats 8000000 in
noncomputable def l04fs_any_c1 : { G : Prop // G → ∀ (ts : List (Kr.Scale × Value)) (v : Value) (g : Gear) (lv rv sv : Value) (by_ : List Int) (bv : Value) (w : World) (_ : BayAt w v ts)
    (_ : IsRow (fun t : Kr.Load => [.int .i64 t.scale, .int .i64 t.shown]) 2 w lv g.loads) (_ : IsRow (fun x : Int => [.int .i64 x]) 1 w rv g.runners) (_ : IsRow (fun x : Int => [.int .i64 x]) 1 w sv g.strokes) (_ : ∀ l ∈ g.loads, (Lit.int .i64 l.scale).wf = true) (_ : IsRow (fun x : Int => [.int .u32 x]) 1 w bv by_) (_ : ∀ x ∈ by_, 0 ≤ x ∧ x ≤ 4294967295) (_ : CondsAt w),
    Calls Tryz.prog 7 #[.agg #[v], .agg #[lv, .int .i64 g.added, .int .i64 g.base, .int .i64 g.jitter, rv, sv, .int .i64 g.spread, .bool g.stamp], bv] w fun e w' => e = .returned (.bool true) ∧ w.Exts w' } := by
  apply Subtype.mk
  case property =>
  intro hG
  have HG := Lib.hid hG
  clear hG
  intro ts v g lv rv sv by_ bv w hrow hl hr hs hwf hby hbb hcd
  obtain ⟨q0, cp0, rfl⟩ := hrow.row.len
  obtain ⟨q1, cp1, rfl⟩ := hl.len
  obtain ⟨q2, cp2, rfl⟩ := hr.len
  obtain ⟨q3, cp3, rfl⟩ := hs.len
  have HB := Lib.hid hrow
  clear hrow
  have HL := Lib.hid hl
  clear hl
  have HR := Lib.hid hr
  clear hr
  have HS := Lib.hid hs
  clear hs
  have HWF := Lib.hid hwf
  clear hwf
  have HCD := Lib.hid hcd
  clear hcd
  obtain ⟨qb, cb, rfl⟩ := hby.len
  have HBY := Lib.hid hby
  clear hby
  have HBB := Lib.hid hbb
  clear hbb
  cases hrd : readyB ts g
  case false =>
    as_aux_lemma =>
    have HRD := Lib.hid hrd
    clear hrd
    go_enter Tryz.func7, Tryz.ntmps7
    go_wp2_with (first
      | (go_at_call 21; refine (l04_alive_any _ (HCD.out.mono exq)).mono ?_; rintro e w' ⟨rfl, X0, rfl⟩)
      | (go_at_call 22; refine (l04_ready_any ts _ g _ _ _ _ (HB.out.mono exq) (HL.out.mono exq) (HR.out.mono exq) (HS.out.mono exq)).mono ?_; rintro e w' ⟨rfl, X1, rfl⟩; rw [HRD.out]))
    go_ret
    exact ⟨rfl, exq⟩
  obtain ⟨hgr, hck⟩ := ready_parts hrd
  have hgn := great_not hgr
  have hga : GearAt w (g, .slice q1 g.loads.length cp1, .slice q2 g.runners.length cp2, .slice q3 g.strokes.length cp3) := ⟨HL.out, HR.out, HS.out, by dsimp only; omega, HWF.out⟩
  obtain ⟨hg1, hg2, hg3, hg4, hg5⟩ := hgn
  have HRD := Lib.hid hrd
  clear hrd
  have HGA := Lib.hid hga
  clear hga
  have HCK := Lib.hid hck
  clear hck
  clear hgr hg2
  have hmm := @run_makeMap Tryz.prog
  go_enter Tryz.func7, Tryz.ntmps7
  go_wp2_with (first
    | (go_at_call 21; refine (l04_alive_any _ (HCD.out.mono exq)).mono ?_; rintro e w' ⟨rfl, X0, rfl⟩)
    | (go_at_call 22; refine (l04_ready_any ts _ g _ _ _ _ (HB.out.mono exq) (HL.out.mono exq) (HR.out.mono exq) (HS.out.mono exq)).mono ?_; rintro e w' ⟨rfl, X1, rfl⟩; rw [HRD.out]))
  clear hmm
  rename_i i9_1_1 i9_1_2 i9_1_3
  revert ts g by_ w q0 cp0 q1 cp1 q2 cp2 q3 cp3 HB HL HR HS HWF HCD qb cb HBY HBB hg1 hg3 hg4 hg5 HRD HGA HCK i9_1_1 X0 X1 i9_1_2 i9_1_3
  exact HG.out
end Go.Proofs.YtfjkiemjmnnbkaaGreatDoor

/-
  The law ScaleFirst: its walk.
-/
namespace Go.Proofs.YtfjkiemjmnnbkaaGreatDoor
open Go.RowKit Go.Maps Kr
set_option linter.unusedSimpArgs false

set_option maxRecDepth 100000 in
set_option maxHeartbeats 8000000 in
noncomputable def l04fs_any_c2 : { G : Prop // G → l04fs_any_c1.val } := by
  apply Subtype.mk
  case property =>
  intro hG
  have HG := Lib.hid hG
  clear hG
  intro ts g by_ w q0 cp0 q1 cp1 q2 cp2 q3 cp3 HB HL HR HS HWF HCD qb cb HBY HBB hg1 hg3 hg4 hg5 HRD HGA HCK i9_1_1 X0 X1 i9_1_2 i9_1_3
  obtain ⟨V, hV⟩ : ∃ V, World.ext _ X1 = V := ⟨_, rfl⟩
  have hwV : w.Exts V := by rw [← hV]; exact exq
  have e0 : V.cell? ⟨w.heap.size, 0, none⟩ = some (.slice q0 ts.length cp0) := by rw [← hV]; simp [go_sem]
  have g0 : V.cell? ⟨w.heap.size + 1, 0, none⟩ = some (.slice q1 g.loads.length cp1) := by rw [← hV]; simp [go_sem]
  have g1 : V.cell? ⟨w.heap.size + 1, 1, none⟩ = some (.int .i64 g.added) := by rw [← hV]; simp [go_sem]
  have g2 : V.cell? ⟨w.heap.size + 1, 2, none⟩ = some (.int .i64 g.base) := by rw [← hV]; simp [go_sem]
  have g3 : V.cell? ⟨w.heap.size + 1, 3, none⟩ = some (.int .i64 g.jitter) := by rw [← hV]; simp [go_sem]
  have g4 : V.cell? ⟨w.heap.size + 1, 4, none⟩ = some (.slice q2 g.runners.length cp2) := by rw [← hV]; simp [go_sem]
  have g5 : V.cell? ⟨w.heap.size + 1, 5, none⟩ = some (.slice q3 g.strokes.length cp3) := by rw [← hV]; simp [go_sem]
  have g6 : V.cell? ⟨w.heap.size + 1, 6, none⟩ = some (.int .i64 g.spread) := by rw [← hV]; simp [go_sem]
  have g7 : V.cell? ⟨w.heap.size + 1, 7, none⟩ = some (.bool g.stamp) := by rw [← hV]; simp [go_sem]
  rw [hV]
  clear hV X0 X1 HRD
  have l1 := Lays.of_cell e0
  have l2 := Lays.of_cell g0
  have hbV := HB.out.mono hwV
  have htri := hbV.tr
  obtain ⟨p0, bb, ob, cpb, eb, hmb, hpb, hcb⟩ := hbV.row.ex
  simp only [Value.slice.injEq] at eb
  obtain ⟨rfl, -, rfl⟩ := eb
  have hlV := HL.out.mono hwV
  obtain ⟨p9, bl, ol, cpl, el, hml, hpl, hcl⟩ := hlV.ex
  simp only [Value.slice.injEq] at el
  obtain ⟨rfl, -, rfl⟩ := el
  have hbyV := HBY.out.mono hwV
  have hidp : (ts.map Prod.fst).Pairwise IdLt := bayOk_ids (check_zero HCK.out).1
  have hrt := bayOk_right (check_zero HCK.out).1
  obtain ⟨T, hT⟩ : ∃ T, TFs (ts.map Prod.fst) by_ = T := ⟨_, rfl⟩
  have hTat : ∀ (k : Nat) (s : Kr.Scale), (ts.map Prod.fst)[k]? = some s → T s.id = tnFs by_ k s := fun k s h => by rw [← hT]; exact TFs_at hidp h
  have hFS := FsAt.start V T
  clear hT hbV hlV HBY
  have HTRI := Lib.hid htri
  clear htri
  have HPB := Lib.hid hpb
  clear hpb
  have HCB := Lib.hid hcb
  clear hcb
  have HPLL := Lib.hid hpl
  clear hpl
  have HCLL := Lib.hid hcl
  clear hcl
  have HBY := Lib.hid hbyV
  clear hbyV
  have HIDP := Lib.hid hidp
  clear hidp
  have HRT := Lib.hid hrt
  clear hrt
  have HTAT := Lib.hid hTat
  clear hTat
  have HFS := Lib.hid hFS
  clear hFS
  go_loopw [42, 8] (fun i lst wr => ∃ k : Nat, k ≤ ts.length ∧ i = .int .i64 k ∧ Hid (FsAt V wr (used ((ts.map Prod.fst).take k) g.loads) T (flatU (used ((ts.map Prod.fst).take k) g.loads) T) lst) ∧ Hid (TrueU (used ((ts.map Prod.fst).take k) g.loads) T)) (fun i _ _ => ts.length - (intOf i).toNat)
  case atStart => exact ⟨0, Nat.zero_le _, rfl, Lib.hid HFS.out, Lib.hid (fun s hs => by cases hs)⟩
  case round =>
    clear HFS
    obtain ⟨k, hk, rfl, HF, HTU⟩ := hrel
    obtain ⟨X10, hX10⟩ := HF.out.ext
    subst hX10
    rcases Nat.lt_or_ge k ts.length with hlt3 | hge3
    ·
      obtain ⟨⟨sc, tv⟩, hx⟩ := some_of_lt hlt3
      have hmem := List.mem_of_getElem? hx
      have htx := HTRI.out _ hmem
      dsimp only at htx
      obtain ⟨qt, ct, rfl⟩ := htx.len
      have hrs := HRT.out sc (List.mem_map.2 ⟨_, hmem, rfl⟩)
      obtain ⟨rfl, hlay⟩ := HPB.out (by omega)
      have hcs := HCB.out k _ hx
      have c0 := hcs 0 _ rfl
      have c1 := hcs 1 _ rfl
      have c2 := hcs 2 _ rfl
      have c3 := hcs 3 _ rfl
      have c4 := hcs 4 _ rfl
      have c5 := hcs 5 _ rfl
      have c6 := hcs 6 _ rfl
      simp only [Nat.add_zero] at c0 c1 c2 c3 c4 c5 c6
      have hbs : (ts.map Prod.fst)[k]? = some sc := by rw [List.getElem?_map, hx]; rfl
      have hus := used_take (ls := g.loads) hbs
      have hfr := used_take_fresh HIDP.out (ls := g.loads) hbs
      have hta := HTAT.out k sc hbs
      have hUl := used_take_len (ts.map Prod.fst) g.loads k
      rw [List.length_map] at hUl
      obtain ⟨U, hU⟩ : ∃ U, used ((ts.map Prod.fst).take k) g.loads = U := ⟨_, rfl⟩
      rw [hU] at hus hfr hUl HF HTU
      have HTX := Lib.hid htx
      clear htx
      have HUS := Lib.hid hus
      clear hus
      have HFR := Lib.hid hfr
      clear hfr
      have HTA := Lib.hid hta
      clear hta
      have HRS := Lib.hid hrs
      clear hrs
      clear hcs hmem hx hbs hU
      go_wp2_with fail
      go_loopw [50, 12] (fun jj uu wr => ∃ m : Nat, m ≤ g.loads.length ∧ jj = .int .i64 m ∧ uu = .bool (usedB (g.loads.take m) sc) ∧ (World.alloc (V.ext X10) (.cells #[.int .i64 sc.id, .int .i64 sc.step, .int .i64 sc.gain.lo, .int .i64 sc.gain.hi, .int .i64 sc.off.lo, .int .i64 sc.off.hi, .slice qt sc.trials.length ct] 59)).Exts wr) (fun jj _ _ => g.loads.length - (intOf jj).toNat)
      case atStart => exact ⟨0, Nat.zero_le _, rfl, rfl, exq⟩
      case round =>
        obtain ⟨m, hm, rfl, rfl, hE⟩ := hrel
        obtain ⟨X11, rfl⟩ := hE
        rcases Nat.lt_or_ge m g.loads.length with hmlt | hmge
        ·
          obtain ⟨rfl, hlay2⟩ := HPLL.out (by omega)
          obtain ⟨l, hl⟩ := some_of_lt hmlt
          have hcs := HCLL.out m l hl
          have d0 := hcs 0 _ rfl
          have d1 := hcs 1 _ rfl
          simp only [Nat.add_zero] at d0 d1
          have hup := usedB_part (s := sc) hl
          clear hl hcs
          cases hu : usedB (g.loads.take m) sc <;> cases hq : l.scale == sc.id
          all_goals
            rw [hu, hq] at hup
            simp only [Bool.or_true, Bool.or_false, Bool.true_or, Bool.false_or] at hup
            have HUP := Lib.hid hup
            clear hup
            go_wp2_with fail
            go_roundw
            case rel => exact ⟨m + 1, by omega, by go_num, by rw [HUP.out], exq⟩
            case measure => simp [intOf]; omega
        obtain rfl : m = g.loads.length := by omega
        simp only [List.take_length]
        cases hu : usedB g.loads sc
        ·
          have hus := HUS.out
          rw [hu, if_neg (by simp)] at hus
          have HU2 := Lib.hid hus
          clear hus
          go_wp2_with fail
          go_roundw
          case rel => exact ⟨k + 1, by omega, by go_num, Lib.hid (by rw [HU2.out]; exact HF.out.exts exq), Lib.hid (by rw [HU2.out]; exact HTU.out)⟩
          case measure => simp [intOf]; omega
        ·
          have hus := HUS.out
          rw [hu, if_pos rfl] at hus
          obtain ⟨hid, hst, hgn, hof, h6, -⟩ := right_bounds HRS.out
          obtain ⟨hgn1, hgn2, hgn3⟩ := hgn
          obtain ⟨hof1, hof2, hof3⟩ := hof
          have hch1 := chooseL_bd HBB.out (2 * k)
          have hch2 := chooseL_bd HBB.out (2 * k + 1)
          have hok := tnFs_bd (by_ := by_) (i := k) HRS.out
          have hx1 : (tnFs by_ k sc).1 = sc.gain.lo + chooseL by_ (2 * k) % (sc.gain.hi - sc.gain.lo + 1) := rfl
          have hx2 : (tnFs by_ k sc).2 = sc.off.lo + chooseL by_ (2 * k + 1) % (sc.off.hi - sc.off.lo + 1) := rfl
          have hta := HTA.out
          generalize hr1 : chooseL by_ (2 * k) = r1 at hch1 hx1
          generalize hr2 : chooseL by_ (2 * k + 1) = r2 at hch2 hx2
          have a1 : IntKind.i64.wrap (2 * (k : Int)) = 2 * (k : Int) := IntWalk.i64_in _ (by omega)
          have a2 : IntKind.i64.wrap (2 * (k : Int) + 1) = 2 * (k : Int) + 1 := IntWalk.i64_in _ (by omega)
          have e1 : IntKind.i64.wrap (sc.gain.hi - sc.gain.lo) = sc.gain.hi - sc.gain.lo := IntWalk.i64_in _ (by omega)
          have e2 : IntKind.i64.wrap (sc.gain.hi - sc.gain.lo + 1) = sc.gain.hi - sc.gain.lo + 1 := IntWalk.i64_in _ (by omega)
          have e3 : r1.tmod (sc.gain.hi - sc.gain.lo + 1) = r1 % (sc.gain.hi - sc.gain.lo + 1) := Int.tmod_eq_emod_of_nonneg hch1.1
          have e4 : IntKind.i64.wrap (sc.gain.lo + r1 % (sc.gain.hi - sc.gain.lo + 1)) = (tnFs by_ k sc).1 := by rw [← hx1]; exact IntWalk.i64_in _ (by omega)
          have e5 : (sc.gain.hi - sc.gain.lo + 1 == 0) = false := beq_eq_false_iff_ne.2 (by omega)
          have f1 : IntKind.i64.wrap (sc.off.hi - sc.off.lo) = sc.off.hi - sc.off.lo := IntWalk.i64_in _ (by omega)
          have f2 : IntKind.i64.wrap (sc.off.hi - sc.off.lo + 1) = sc.off.hi - sc.off.lo + 1 := IntWalk.i64_in _ (by omega)
          have f3 : r2.tmod (sc.off.hi - sc.off.lo + 1) = r2 % (sc.off.hi - sc.off.lo + 1) := Int.tmod_eq_emod_of_nonneg hch2.1
          have f4 : IntKind.i64.wrap (sc.off.lo + r2 % (sc.off.hi - sc.off.lo + 1)) = (tnFs by_ k sc).2 := by rw [← hx2]; exact IntWalk.i64_in _ (by omega)
          have f5 : (sc.off.hi - sc.off.lo + 1 == 0) = false := beq_eq_false_iff_ne.2 (by omega)
          clear hx1 hx2
          have HR1 := Lib.hid hr1
          clear hr1
          have HR2 := Lib.hid hr2
          clear hr2
          have HU2 := Lib.hid hus
          clear hus
          generalize tnFs by_ k sc = t at *
          obtain ⟨x, y⟩ := t
          dsimp only at hok e4 f4
          have htc := fun (W : World) (hE : V.Exts W) => r04_True_any sc (.slice qt sc.trials.length ct) x y W (HTX.out.mono hE) HRS.out (by omega) (by omega)
          have HTQ := Lib.hid hta
          clear hta
          have HTC := Lib.hid htc
          clear htc
          clear HTA
          go_upto_region 18 with (fail)
          refine wp_region_alloc 37 36 _ (.cells #[.int .i64 0, .int .i64 0] 61) (by kernel_rfl) (fun pp => by kernel_rfl) (by kernel_rfl) rfl rfl rfl (by decide) (fun a W => by kernel_rfl) ?_
          apply Exists.intro
          refine ⟨fun pp hpp T hT L hL => ?_, fun pp => ?_, fun pp Wp hpp hEp hop => ?_⟩
          · haveI := hT.2
            simp only [mvOp, List.set_cons_succ, List.set_cons_zero, List.take_succ_cons, List.take_zero]
            repeat (go_big_quiet_step ((go_at_call 25; first | exact Calls.in_extT_eq hT (l04_choose_at by_ _ (2 * k) _ _ (HBY.out.mono exq) HBB.out (by omega) (by omega)) (by rw [HR1.out]) | exact Calls.in_extT_eq hT (l04_choose_at by_ _ (2 * k + 1) _ _ (HBY.out.mono exq) HBB.out (by omega) (by omega)) (by rw [HR2.out]))))
            exact wpQuiet_nil hL
          · rfl
          simp only [List.drop_succ_cons, List.drop_zero]
          obtain ⟨X5, rfl⟩ := hEp
          clear a1 a2 e1 e2 e3 e4 e5 f1 f2 f3 f4 f5
          have p0 := cells_block (cs := [.int .i64 0, .int .i64 0]) hop 0 _ rfl
          have p1 := cells_block (cs := [.int .i64 0, .int .i64 0]) hop 1 _ rfl
          have q0 := block_frozen (i := 0) hop
          have q1 := block_frozen (i := 1) hop
          have nq0 := Lays.of_cell p0
          go_upto_region 19 with (fail)
          obtain ⟨Z, hZ⟩ : ∃ Z, ((World.ext _ X5).setCell ⟨pp, 0, none⟩ (.int .i64 x)).setCell ⟨pp, 1, none⟩ (.int .i64 y) = Z := ⟨_, rfl⟩
          have hEa : (V.ext X10).Exts (World.alloc (V.ext X10) (.cells #[.int .i64 sc.id, .int .i64 sc.step, .int .i64 sc.gain.lo, .int .i64 sc.gain.hi, .int .i64 sc.off.lo, .int .i64 sc.off.hi, .slice qt sc.trials.length ct] 59)) := exq
          have hEZ0 : (World.ext (World.alloc (V.ext X10) (.cells #[.int .i64 sc.id, .int .i64 sc.step, .int .i64 sc.gain.lo, .int .i64 sc.gain.hi, .int .i64 sc.off.lo, .int .i64 sc.off.hi, .slice qt sc.trials.length ct] 59)) X11).Exts Z := by rw [← hZ]; exact World.Exts.setCell (World.Exts.setCell ⟨X5, rfl⟩ hpp _) hpp _
          have hEZ1 : (World.alloc (V.ext X10) (.cells #[.int .i64 sc.id, .int .i64 sc.step, .int .i64 sc.gain.lo, .int .i64 sc.gain.hi, .int .i64 sc.off.lo, .int .i64 sc.off.hi, .slice qt sc.trials.length ct] 59)).Exts (World.ext (World.alloc (V.ext X10) (.cells #[.int .i64 sc.id, .int .i64 sc.step, .int .i64 sc.gain.lo, .int .i64 sc.gain.hi, .int .i64 sc.off.lo, .int .i64 sc.off.hi, .slice qt sc.trials.length ct] 59)) X11) := ⟨X11, rfl⟩
          have hEZ := hEZ1.trans hEZ0
          have hPZ : LaysAs Z pp (.cells [.int .i64 x, .int .i64 y].toArray 61 (0, 0)) := by rw [← hZ]; exact LaysAs.set (LaysAs.set (cs := [.int .i64 0, .int .i64 0]) hop _) _
          rw [hZ]
          have z0 := LaysAs.cell hPZ 0 _ rfl
          have z1 := LaysAs.cell hPZ 1 _ rfl
          have s0 := hEZ.cell (show (World.alloc (V.ext X10) (.cells #[.int .i64 sc.id, .int .i64 sc.step, .int .i64 sc.gain.lo, .int .i64 sc.gain.hi, .int .i64 sc.off.lo, .int .i64 sc.off.hi, .slice qt sc.trials.length ct] 59)).cell? ⟨(V.ext X10).heap.size, 0, none⟩ = some (.int .i64 sc.id) by simp [go_sem])
          have s1 := hEZ.cell (show (World.alloc (V.ext X10) (.cells #[.int .i64 sc.id, .int .i64 sc.step, .int .i64 sc.gain.lo, .int .i64 sc.gain.hi, .int .i64 sc.off.lo, .int .i64 sc.off.hi, .slice qt sc.trials.length ct] 59)).cell? ⟨(V.ext X10).heap.size, 1, none⟩ = some (.int .i64 sc.step) by simp [go_sem])
          have s2 := hEZ.cell (show (World.alloc (V.ext X10) (.cells #[.int .i64 sc.id, .int .i64 sc.step, .int .i64 sc.gain.lo, .int .i64 sc.gain.hi, .int .i64 sc.off.lo, .int .i64 sc.off.hi, .slice qt sc.trials.length ct] 59)).cell? ⟨(V.ext X10).heap.size, 2, none⟩ = some (.int .i64 sc.gain.lo) by simp [go_sem])
          have s3 := hEZ.cell (show (World.alloc (V.ext X10) (.cells #[.int .i64 sc.id, .int .i64 sc.step, .int .i64 sc.gain.lo, .int .i64 sc.gain.hi, .int .i64 sc.off.lo, .int .i64 sc.off.hi, .slice qt sc.trials.length ct] 59)).cell? ⟨(V.ext X10).heap.size, 3, none⟩ = some (.int .i64 sc.gain.hi) by simp [go_sem])
          have s4 := hEZ.cell (show (World.alloc (V.ext X10) (.cells #[.int .i64 sc.id, .int .i64 sc.step, .int .i64 sc.gain.lo, .int .i64 sc.gain.hi, .int .i64 sc.off.lo, .int .i64 sc.off.hi, .slice qt sc.trials.length ct] 59)).cell? ⟨(V.ext X10).heap.size, 4, none⟩ = some (.int .i64 sc.off.lo) by simp [go_sem])
          have s5 := hEZ.cell (show (World.alloc (V.ext X10) (.cells #[.int .i64 sc.id, .int .i64 sc.step, .int .i64 sc.gain.lo, .int .i64 sc.gain.hi, .int .i64 sc.off.lo, .int .i64 sc.off.hi, .slice qt sc.trials.length ct] 59)).cell? ⟨(V.ext X10).heap.size, 5, none⟩ = some (.int .i64 sc.off.hi) by simp [go_sem])
          have s6 := hEZ.cell (show (World.alloc (V.ext X10) (.cells #[.int .i64 sc.id, .int .i64 sc.step, .int .i64 sc.gain.lo, .int .i64 sc.gain.hi, .int .i64 sc.off.lo, .int .i64 sc.off.hi, .slice qt sc.trials.length ct] 59)).cell? ⟨(V.ext X10).heap.size, 6, none⟩ = some (.slice qt sc.trials.length ct) by simp [go_sem])
          have hFZ := HF.out.exts (hEa.trans hEZ)
          have hVZ : V.Exts Z := hFZ.ext
          have hwZ := hwV.trans hVZ
          have hBp : V.heap.size < pp := by
            have h1 := World.size_ext_le _ X10
            have h2 := World.size_ext_le _ X11
            simp at h2 hpp
            omega
          have nz := Lays.of_cell z0
          have ns := Lays.of_cell s0
          have hkey : keyOf Tryz.prog 3 (.int .i64 sc.id) = some (.int .i64 sc.id) := Maps.keyOf_int_mk Tryz.underlying3 (WalkArith.wf_i64 (by omega))
          obtain ⟨D, hD1, hD2⟩ := hFZ.map.ex
          have HFZ := Lib.hid hFZ
          clear hFZ
          have HPZ := Lib.hid hPZ
          clear hPZ
          have HD1 := Lib.hid hD1
          clear hD1
          have HD2 := Lib.hid hD2
          clear hD2
          clear hZ hEZ0 hEZ1 hEa hEZ hop hpp p0 p1 q0 q1 nq0 X5 X11 HF
          have htc := HTC.out
          clear HTC
          cases htr : trueB sc x y
          · simp only [htr] at htc
            have HTC := Lib.hid htc
            clear htc
            go_wp2_with (go_at_call 37; refine (HTC.out _ (exf hVZ)).mono ?_; rintro e w' ⟨rfl, X9, rfl⟩)
            go_ret
            exact ⟨rfl, (exf hwZ)⟩
          · simp only [htr] at htc
            have HTC := Lib.hid htc
            clear htc
            go_upto_region 21 with (go_at_call 37; refine (HTC.out _ (exf hVZ)).mono ?_; rintro e w' ⟨rfl, X9, rfl⟩)
            go_wp2_with (at_mapUpdate; refine wpList_mapUpdate_own _ rfl _ _ _ 87 rfl 3 61 law_int Tryz.underlying87 readSelf _ _ D rfl (ownsMap_exts HD1.out exq) (by unfold maxLen; omega) _ _ _ rfl rfl hkey _ [] rfl ?_)
            intro w1 hown1 hgw1
            have hF9 := (HFZ.out.exts (W' := World.ext Z X9) exq).put HD2.out HFR.out (by rw [HTQ.out]; exact hown1) hgw1
            have hP1 := (LaysAs.exts HPZ.out (w' := World.ext Z X9) exq).grown hgw1 (by omega)
            have t0 := LaysAs.cell hP1 0 _ rfl
            have t1 := LaysAs.cell hP1 1 _ rfl
            have nt := Lays.of_cell t0
            have hE1 := hF9.ext
            have hbg := hF9.big
            have HF9 := Lib.hid hF9
            clear hF9
            clear hown1 hgw1 hP1
            go_wp2_with (at_builtin; refine wpList_append_rowL (.tmp 113) (.tmp 118) (ys := [x, y]) (enc := fun x : Int => [.int .i64 x]) elem_int rfl rfl rfl (HF9.out.exts (W' := w1.alloc (.cells #[.int .i64 x, .int .i64 y] 3)) exq).row rfl (row_pr w1 x y _ rfl) (fun _ _ => rfl) (fun y _ u hu => by simp at hu; subst hu; rfl) (by rw [flatU_len]; simp; omega) (by decide) (by simp; omega) ?_)
            intro v' w2 hown2 happ2
            have hF3 := (HF9.out.exts (W' := w1.alloc (.cells #[.int .i64 x, .int .i64 y] 3)) exq).app [x, y] hown2 happ2
            have HF3 := Lib.hid hF3
            clear hF3
            clear hown2 happ2
            go_wp2_with fail
            go_roundw
            case rel => exact ⟨k + 1, by omega, by go_num, Lib.hid (by rw [HU2.out, flatU_snoc, HTQ.out]; exact HF3.out), Lib.hid (by rw [HU2.out]; exact HTU.out.snoc (by rw [HTQ.out]; exact htr))⟩
            case measure => simp [intOf]; omega
    obtain rfl : k = ts.length := by omega
    have hfin : used ((ts.map Prod.fst).take ts.length) g.loads = used (ts.map Prod.fst) g.loads := by rw [List.take_of_length_le (by rw [List.length_map]; exact Nat.le_refl _)]
    rw [hfin] at HF HTU
    clear hfin hge3 hk
    go_wp2_with fail
    rename_i i9_2_1 i9_2_2 i9_2_3 i9_2_4 i9_2_5
    revert ts g by_ w q0 cp0 q1 cp1 q2 cp2 q3 cp3 HB HL HR HS HWF HCD qb cb HBB hg1 hg3 hg4 hg5 HGA HCK i9_1_1 i9_1_2 V hwV e0 g0 g1 g2 g3 g4 g5 g6 g7 l1 l2 bb ob hmb bl ol hml T HTRI HPB HCB HPLL HCLL HBY HIDP HRT HTAT u6 u8 u10 u11 u12 u14 u15 u43 u44 u45 u46 u47 u48 u49 u50 u51 u52 u53 u54 u55 u56 u57 u58 u59 u60 u61 u62 u63 u64 u65 u66 u67 u68 u69 u70 u71 u72 u73 u74 u75 u76 u77 u78 u79 u80 u81 u82 u83 u84 u85 u86 u87 u88 u89 u90 u91 u92 u93 u94 u95 u96 u97 u98 u99 u100 u101 u102 u103 u104 u105 u106 u107 u108 u109 u110 u111 u112 u113 u114 u115 u116 u117 u118 u119 u120 X10 HTU HF i9_2_1 i9_2_2 i9_2_3 i9_2_4 i9_2_5
    exact HG.out
end Go.Proofs.YtfjkiemjmnnbkaaGreatDoor

/-
  The law ScaleFirst: its walk.
-/
namespace Go.Proofs.YtfjkiemjmnnbkaaGreatDoor
open Go.RowKit Go.Maps Kr
set_option linter.unusedSimpArgs false

set_option maxRecDepth 100000 in
set_option maxHeartbeats 8000000 in
noncomputable def l04fs_any_c3 : { G : Prop // G → l04fs_any_c2.val } := by
  apply Subtype.mk
  case property =>
  intro hG
  have HG := Lib.hid hG
  clear hG
  intro ts g by_ w q0 cp0 q1 cp1 q2 cp2 q3 cp3 HB HL HR HS HWF HCD qb cb HBB hg1 hg3 hg4 hg5 HGA HCK i9_1_1 i9_1_2 V hwV e0 g0 g1 g2 g3 g4 g5 g6 g7 l1 l2 bb ob hmb bl ol hml T HTRI HPB HCB HPLL HCLL HBY HIDP HRT HTAT u6 u8 u10 u11 u12 u14 u15 u43 u44 u45 u46 u47 u48 u49 u50 u51 u52 u53 u54 u55 u56 u57 u58 u59 u60 u61 u62 u63 u64 u65 u66 u67 u68 u69 u70 u71 u72 u73 u74 u75 u76 u77 u78 u79 u80 u81 u82 u83 u84 u85 u86 u87 u88 u89 u90 u91 u92 u93 u94 u95 u96 u97 u98 u99 u100 u101 u102 u103 u104 u105 u106 u107 u108 u109 u110 u111 u112 u113 u114 u115 u116 u117 u118 u119 u120 X10 HTU HF i9_2_1 i9_2_2 i9_2_3 i9_2_4 i9_2_5
  have hbV := HB.out.mono hwV
  obtain ⟨U, hU⟩ : ∃ U, used (ts.map Prod.fst) g.loads = U := ⟨_, rfl⟩
  rw [hU] at HF HTU
  have hcko := check_ok (check_zero HCK.out).1 (check_zero HCK.out).2
  have hls := gearOk_at (check_zero HCK.out).2
  have had := hcko.ad
  have h6l := hcko.l6
  have hsh := hcko.sh
  have hul : U.length ≤ 8 := by
    have h1 := List.length_filter_le (usedB g.loads) (ts.map Prod.fst)
    have h2 : U.length = (List.filter (usedB g.loads) (ts.map Prod.fst)).length := by rw [← hU]; rfl
    rw [List.length_map] at h1
    omega
  have hF0 := HF.out
  rw [← List.append_nil (flatU U T)] at hF0
  have HBV := Lib.hid hbV
  clear hbV
  have HUE := Lib.hid hU
  clear hU
  have HLS := Lib.hid hls
  clear hls
  have HSH := Lib.hid hsh
  clear hsh
  have HF0 := Lib.hid hF0
  clear hF0
  clear hcko HF
  go_loopw [126, 8, 16] (fun i lst tot wr => ∃ (k : Nat) (ws : List Int), k ≤ g.loads.length ∧ i = .int .i64 k ∧ tot = .int .i64 (g.added + ws.sum) ∧ (0 ≤ ws.sum ∧ ws.sum ≤ 1000000 * (k : Int)) ∧ Hid (ws.length = k) ∧ Hid (InSpans (ts.map Prod.fst) T g.loads ws) ∧ Hid (FsAt V wr U T (flatU U T ++ ws) lst)) (fun i _ _ _ => g.loads.length - (intOf i).toNat)
  case atStart => exact ⟨0, [], Nat.zero_le _, rfl, by simp, by simp, rfl, Lib.hid (InSpans.nil _ _ _), HF0⟩
  case round =>
    clear HF0 X10
    obtain ⟨k, ws, hk, rfl, rfl, hsb, HLN, HINS, HF⟩ := hrel
    obtain ⟨X10, hX10⟩ := HF.out.ext
    subst hX10
    rcases Nat.lt_or_ge k g.loads.length with hlt4 | hge4
    ·
      obtain ⟨l, hl⟩ := some_of_lt hlt4
      have hlm := List.mem_of_getElem? hl
      obtain ⟨rfl, hlay2⟩ := HPLL.out (by omega)
      have hcs := HCLL.out k l hl
      have d0 := hcs 0 _ rfl
      have d1 := hcs 1 _ rfl
      simp only [Nat.add_zero] at d0 d1
      obtain ⟨m, ⟨sc, tv⟩, hm, hfa, hsc, hmem, hus⟩ := load_at hlm HLS.out
      have htx := HTRI.out _ hmem
      dsimp only at hsc hus htx
      obtain ⟨qt, ct, rfl⟩ := htx.len
      have hrs := HRT.out sc (List.mem_map.2 ⟨_, hmem, rfl⟩)
      obtain ⟨rfl, hlayb⟩ := HPB.out (List.length_pos_of_mem hmem)
      have hml2 := (List.getElem?_eq_some_iff.1 hm).1
      have hcs := HCB.out m _ hm
      have c0 := hcs 0 _ rfl
      have c1 := hcs 1 _ rfl
      have c2 := hcs 2 _ rfl
      have c3 := hcs 3 _ rfl
      have c4 := hcs 4 _ rfl
      have c5 := hcs 5 _ rfl
      have c6 := hcs 6 _ rfl
      simp only [Nat.add_zero] at c0 c1 c2 c3 c4 c5 c6
      have nd0 := Lays.of_cell d0
      have nc0 := Lays.of_cell c0
      have hst := (right_bounds hrs).2.1
      rw [HUE.out] at hus
      have htt := trueB_gain hrs (HTU.out sc hus)
      have hss := HSH.out sc (List.mem_map.2 ⟨_, hmem, rfl⟩) l hlm hsc
      have hspan := spanOf_at HIDP.out (T := T) (List.mem_map.2 ⟨_, hmem, rfl⟩) hsc
      have hlk := (HF.out.map.exts (W' := World.alloc (V.ext X10) (.cells #[.int .i64 l.scale, .int .i64 l.shown] 63)) exq).look hus hsc (HWF.out l hlm)
      obtain ⟨⟨t1, t2⟩, hTp⟩ : ∃ p, T sc.id = p := ⟨_, rfl⟩
      rw [hTp] at htt hspan hlk
      dsimp only at htt hspan hlk
      have hat := fun (Z : World) (hZ : V.Exts Z) => r04_At_any ts _ l.scale Z (HBV.out.mono hZ)
      simp only [hfa] at hat
      have hwb := wtR_bound (step := sc.step) (n := l.shown) (off := t2) (gain := t1) htt.1 htt.2 hss
      have hweq := wtR_eq (step := sc.step) (gain := t1) (off := t2) (n := l.shown) htt.1
      have hwy := fun (Z : World) => r04_Weights_any sc (.slice qt sc.trials.length ct) t1 t2 l.shown Z hst htt.1 htt.2 hss
      have hin2 : (wtR sc.step t1 t2 l.shown).lo ≤ (wtR sc.step t1 t2 l.shown).hi → spanOf (ts.map Prod.fst) T l = wtR sc.step t1 t2 l.shown := fun h => by rw [hspan, hweq.2 (hweq.1.1 h)]
      have hch := chooseL_bd HBB.out (8 + k)
      generalize wtR sc.step t1 t2 l.shown = sp at hwb hwy hin2
      generalize hr1 : chooseL by_ (8 + k) = r1 at hch
      have k3 : (0 : Int) ≤ (m : Int) := by omega
      have k4 : (m : Int) < (ts.length : Int) := by omega
      have HAT := Lib.hid hat
      clear hat
      have HWY := Lib.hid hwy
      clear hwy
      have HIN2 := Lib.hid hin2
      clear hin2
      have HR1 := Lib.hid hr1
      clear hr1
      have HLL := Lib.hid hl
      clear hl
      clear hcs hm hmem hus hsc hfa hrs hTp htt hspan hweq hst hss htx hlm
      go_upto_region 29 with (fail)
      refine wp_region_alloc 16 15 _ (.cells #[.int .i64 0, .int .i64 0] 42) (by kernel_rfl) (fun pp => by kernel_rfl) (by kernel_rfl) rfl rfl rfl (by decide) (fun a W => by kernel_rfl) ?_
      apply Exists.intro
      refine ⟨fun pp hpp T hT L hL => ?_, fun pp => ?_, fun pp Wp hpp hEp hop => ?_⟩
      · haveI := hT.2
        simp only [mvOp, List.set_cons_succ, List.set_cons_zero, List.take_succ_cons, List.take_zero]
        repeat (go_big_quiet_step (first | (go_at_call 39; exact Calls.in_extT_eq hT (HAT.out _ exq) rfl) | (go_at_call 40; exact Calls.in_extT_eq hT (HWY.out _) rfl)))
        exact wpQuiet_nil hL
      · rfl
      simp only [List.drop_succ_cons, List.drop_zero]
      obtain ⟨X5, rfl⟩ := hEp
      have p0 := cells_block (cs := [.int .i64 0, .int .i64 0]) hop 0 _ rfl
      have p1 := cells_block (cs := [.int .i64 0, .int .i64 0]) hop 1 _ rfl
      have q0 := block_frozen (i := 0) hop
      have q1 := block_frozen (i := 1) hop
      have nq0 := Lays.of_cell p0
      go_upto_region 30 with (fail)
      obtain ⟨Z, hZ⟩ : ∃ Z, ((World.ext _ X5).setCell ⟨pp, 0, none⟩ (.int .i64 sp.lo)).setCell ⟨pp, 1, none⟩ (.int .i64 sp.hi) = Z := ⟨_, rfl⟩
      have hEa : (V.ext X10).Exts (World.alloc (World.alloc (V.ext X10) (.cells #[.int .i64 l.scale, .int .i64 l.shown] 63)) (.cells #[.int .i64 t1, .int .i64 t2] 61)) := exq
      have hEZ : (World.alloc (World.alloc (V.ext X10) (.cells #[.int .i64 l.scale, .int .i64 l.shown] 63)) (.cells #[.int .i64 t1, .int .i64 t2] 61)).Exts Z := by rw [← hZ]; exact World.Exts.setCell (World.Exts.setCell ⟨X5, rfl⟩ hpp _) hpp _
      have hPZ : LaysAs Z pp (.cells [.int .i64 sp.lo, .int .i64 sp.hi].toArray 42 (0, 0)) := by rw [← hZ]; exact LaysAs.set (LaysAs.set (cs := [.int .i64 0, .int .i64 0]) hop _) _
      rw [hZ]
      have z0 := LaysAs.cell hPZ 0 _ rfl
      have z1 := LaysAs.cell hPZ 1 _ rfl
      have hFZ := HF.out.exts (hEa.trans hEZ)
      have hVZ := hFZ.ext
      have hwZ := hwV.trans hVZ
      have nz := Lays.of_cell z0
      have hbg := hFZ.big
      have hsum : ∀ n : Int, (ws ++ [n]).sum = ws.sum + n := fun n => by simp
      have HFZ := Lib.hid hFZ
      clear hFZ
      have HSUM := Lib.hid hsum
      clear hsum
      clear hZ hop hPZ p0 p1 q0 q1 nq0 hEZ hEa hpp X5 HF hlk d0 d1 nd0 c0 c1 c2 c3 c4 c5 c6 nc0
      rcases Int.lt_or_le sp.hi sp.lo with hlh | hlh
      · go_wp2_with fail
        go_ret
        exact ⟨rfl, (exf hwZ)⟩
      · have hsp := HIN2.out hlh
        have hmd := emod_bd (a := r1) (m := sp.hi - sp.lo + 1) (by omega)
        have a1 : IntKind.i64.wrap (8 + (k : Int)) = 8 + (k : Int) := IntWalk.i64_in _ (by omega)
        have e1 : IntKind.i64.wrap (sp.hi - sp.lo) = sp.hi - sp.lo := IntWalk.i64_in _ (by omega)
        have e2 : IntKind.i64.wrap (sp.hi - sp.lo + 1) = sp.hi - sp.lo + 1 := IntWalk.i64_in _ (by omega)
        have e3 : r1.tmod (sp.hi - sp.lo + 1) = r1 % (sp.hi - sp.lo + 1) := Int.tmod_eq_emod_of_nonneg hch.1
        obtain ⟨n, hn⟩ : ∃ n, n = sp.lo + r1 % (sp.hi - sp.lo + 1) := ⟨_, rfl⟩
        have e4 : IntKind.i64.wrap (sp.lo + r1 % (sp.hi - sp.lo + 1)) = n := by rw [hn]; exact IntWalk.i64_in _ (by omega)
        have e5 : (sp.hi - sp.lo + 1 == 0) = false := beq_eq_false_iff_ne.2 (by omega)
        have hnb : sp.lo ≤ n ∧ n ≤ sp.hi := by omega
        have hins := HINS.out.snoc (n := n) (by rw [HLN.out]; exact HLL.out) (by rw [hsp]; exact hnb)
        have hlw := HLN.out
        have hsb2 : 0 ≤ (ws ++ [n]).sum ∧ (ws ++ [n]).sum ≤ 1000000 * ((k + 1 : Nat) : Int) := by rw [HSUM.out]; push_cast; omega
        have HINS2 := Lib.hid hins
        clear hins
        have HLW := Lib.hid hlw
        clear hlw
        clear hn hsp HIN2
        go_upto_region 32 with (fail)
        refine wp_region_ext (by kernel_rfl) (by kernel_rfl) ?_
        repeat (go_big_quiet_step ((go_at_call 25; exact Calls.in_ext_eq (l04_choose_at by_ _ (8 + k) _ _ (HBY.out.mono (hVZ.trans ⟨_, rfl⟩)) HBB.out (by omega) (by omega)) (by rw [HR1.out]))))
        refine wpQuiet_nil ?_
        rintro _ ⟨X, rfl⟩
        clear a1 e1 e2 e3 e4 e5 hmd
        go_wp2_with (at_builtin; refine wpList_append_rowL (.tmp 170) (.tmp 172) (ys := [n]) (enc := fun x : Int => [.int .i64 x]) elem_int rfl rfl rfl (HFZ.out.exts (W' := World.alloc (Z.ext X) (.cells #[.int .i64 n] 3)) exq).row rfl (row_on (Z.ext X) n _ rfl) (fun _ _ => rfl) (fun y _ u hu => by simp at hu; subst hu; rfl) (by rw [List.length_append, flatU_len, HLW.out]; simp; omega) (by decide) (by have := World.size_ext_le _ X; simp; omega) ?_)
        intro v' w2 hown2 happ2
        have hF3 := (HFZ.out.exts (W' := World.alloc (Z.ext X) (.cells #[.int .i64 n] 3)) exq).app (v' := v') [n] (by simpa [List.length_append] using hown2) happ2
        have HF3 := Lib.hid hF3
        clear hF3
        clear hown2 happ2
        go_wp2_with fail
        go_roundw
        case rel => exact ⟨k + 1, ws ++ [n], by omega, by go_num, by rw [HSUM.out]; go_num, hsb2, Lib.hid (by rw [List.length_append, HLW.out]; rfl), HINS2, Lib.hid (by rw [← List.append_assoc]; exact HF3.out)⟩
        case measure => simp [intOf]; omega
    obtain rfl : k = g.loads.length := by omega
    rename_i i9_3_1 i9_3_2
    revert ts g by_ w q0 cp0 q1 cp1 q2 cp2 q3 cp3 HB HL HR HS HWF HCD qb cb HBB hg1 hg3 hg4 hg5 HGA HCK i9_1_1 i9_1_2 V hwV e0 g0 g1 g2 g3 g4 g5 g6 g7 l1 l2 bb ob hmb bl ol hml T HTRI HPB HCB HPLL HCLL HBY HIDP HRT HTAT i9_3_1 i9_3_2 u10 u11 u12 u14 u15 u43 u44 u45 u46 u47 u48 u49 u50 u51 u52 u53 u54 u55 u56 u57 u58 u59 u60 u61 u62 u63 u64 u65 u66 u67 u68 u69 u70 u71 u72 u73 u74 u75 u76 u77 u78 u79 u80 u81 u82 u83 u84 u85 u86 u87 u88 u89 u90 u91 u92 u93 u94 u95 u96 u97 u98 u99 u100 u101 u102 u103 u104 u105 u106 u107 u108 u109 u110 u111 u112 u113 u114 u115 u116 u117 u118 u119 u120 i9_2_1 i9_2_2 i9_2_3 i9_2_4 i9_2_5 U HTU had h6l hul HBV HUE HLS HSH u6 u8 u17 u18 u19 u20 u21 u127 u128 u129 u130 u131 u132 u133 u134 u135 u136 u137 u138 u139 u140 u141 u142 u143 u144 u145 u146 u147 u148 u149 u150 u151 u152 u153 u154 u155 u156 u157 u158 u159 u160 u161 u162 u163 u164 u165 u166 u167 u168 u169 u170 u171 u172 u173 u174 u175 u176 u177 ws HINS X10 HF hk hsb HLN hge4
    exact HG.out
end Go.Proofs.YtfjkiemjmnnbkaaGreatDoor

/-
  The law ScaleFirst: its walk.
-/
namespace Go.Proofs.YtfjkiemjmnnbkaaGreatDoor
open Go.RowKit Go.Maps Kr
set_option linter.unusedSimpArgs false

set_option maxRecDepth 100000 in
set_option maxHeartbeats 8000000 in
noncomputable def l04fs_any_c4 : { G : Prop // G → l04fs_any_c3.val } := by
  apply Subtype.mk
  case property =>
  intro hG
  have HG := Lib.hid hG
  clear hG
  intro ts g by_ w q0 cp0 q1 cp1 q2 cp2 q3 cp3 HB HL HR HS HWF HCD qb cb HBB hg1 hg3 hg4 hg5 HGA HCK i9_1_1 i9_1_2 V hwV e0 g0 g1 g2 g3 g4 g5 g6 g7 l1 l2 bb ob hmb bl ol hml T HTRI HPB HCB HPLL HCLL HBY HIDP HRT HTAT i9_3_1 i9_3_2 u10 u11 u12 u14 u15 u43 u44 u45 u46 u47 u48 u49 u50 u51 u52 u53 u54 u55 u56 u57 u58 u59 u60 u61 u62 u63 u64 u65 u66 u67 u68 u69 u70 u71 u72 u73 u74 u75 u76 u77 u78 u79 u80 u81 u82 u83 u84 u85 u86 u87 u88 u89 u90 u91 u92 u93 u94 u95 u96 u97 u98 u99 u100 u101 u102 u103 u104 u105 u106 u107 u108 u109 u110 u111 u112 u113 u114 u115 u116 u117 u118 u119 u120 i9_2_1 i9_2_2 i9_2_3 i9_2_4 i9_2_5 U HTU had h6l hul HBV HUE HLS HSH u6 u8 u17 u18 u19 u20 u21 u127 u128 u129 u130 u131 u132 u133 u134 u135 u136 u137 u138 u139 u140 u141 u142 u143 u144 u145 u146 u147 u148 u149 u150 u151 u152 u153 u154 u155 u156 u157 u158 u159 u160 u161 u162 u163 u164 u165 u166 u167 u168 u169 u170 u171 u172 u173 u174 u175 u176 u177 ws HINS X10 HF hk hsb HLN hge4
  have htf := truthOf_fs HCK.out (T := T) (ws := ws) (by rw [HUE.out]; exact HTU.out) HINS.out HLN.out
  obtain ⟨hhas, ch, ws', etr, hch, hws, hlex⟩ := first_lex HCK.out htf rfl
  obtain ⟨x, hx⟩ : ∃ x, g.added + ws.sum = x := ⟨_, rfl⟩
  rw [hx] at hhas etr ⊢
  have hlex2 : LexLe (flatT ch ++ ws') (flatU U T ++ ws) := by rw [HUE.out] at hlex; exact hlex
  have htl : totals (ts.map Prod.fst) g ≠ [] := fun h => by obtain ⟨s, hs, -⟩ := hhas; rw [h] at hs; cases hs
  have hin := inL_iff.2 hhas
  have T1 := fun (W : World) (hE : w.Exts W) => scale_Totals_any ts _ g _ _ _ W (HB.out.mono hE) (HGA.out.mono hE)
  simp only [wd_totals HCK.out, if_neg htl] at T1
  obtain ⟨TL, hTL⟩ : ∃ l, totals (ts.map Prod.fst) g = l := ⟨_, rfl⟩
  rw [hTL] at T1 hin
  have TT := fun (W : World) (hE : w.Exts W) => scale_Truth_any ts _ g _ _ _ x W (HB.out.mono hE) (HGA.out.mono hE)
  have hrl := HF.out.isRow
  obtain ⟨ql, cl, hql⟩ := hrl.len
  have hlen : (flatU U T ++ ws).length = 2 * ch.length + ws'.length := by rw [List.length_append, flatU_len, hch, hws, HLN.out, HUE.out]
  obtain ⟨L, hL⟩ : ∃ L, flatU U T ++ ws = L := ⟨_, rfl⟩
  rw [hL] at hlex2 hrl hlen hql
  subst hql
  have hwX := hwV.trans HF.out.ext
  have hcl : ch.length ≤ 8 := by rw [hch, HUE.out]; exact hul
  have hwl : ws'.length ≤ 6 := by rw [hws]; exact h6l
  have a1 : IntKind.i64.wrap (2 * (ch.length : Int)) = 2 * (ch.length : Int) := IntWalk.i64_in _ (by omega)
  have a2 : IntKind.i64.wrap (2 * (ch.length : Int) + (ws'.length : Int)) = (L.length : Int) := by rw [IntWalk.i64_in _ (by omega)]; omega
  obtain ⟨A, hA⟩ : ∃ W, V.ext X10 = W := ⟨_, rfl⟩
  have hEA : V.Exts A := by rw [← hA]; exact ⟨X10, rfl⟩
  rw [hA] at hrl hwX ⊢
  replace e0 := hEA.cell e0
  replace g0 := hEA.cell g0
  replace g1 := hEA.cell g1
  replace g2 := hEA.cell g2
  replace g3 := hEA.cell g3
  replace g4 := hEA.cell g4
  replace g5 := hEA.cell g5
  replace g6 := hEA.cell g6
  replace g7 := hEA.cell g7
  replace l1 := Lays.of_cell e0
  replace l2 := Lays.of_cell g0
  have HCH := Lib.hid hch
  clear hch
  have HWS := Lib.hid hws
  clear hws
  have HLEN := Lib.hid hlen
  clear hlen
  have HTR := Lib.hid etr
  clear etr
  have HIN := Lib.hid hin
  clear hin
  have HLEX := Lib.hid hlex2
  clear hlex2
  have HT1 := Lib.hid T1
  clear T1
  have HTT := Lib.hid TT
  clear TT
  have HRL := Lib.hid hrl
  clear hrl
  clear hhas htl hTL hx hL hlex htf hA hEA HF HINS HLN HUE HTU HTAT HSH HLS HBV hsb hge4 X10
  go_wp2_with (first
    | (go_at_call 29; refine (HT1.out _ (exf hwX)).mono ?_; rintro e w' ⟨v1, rfl, hv1, X3, rfl⟩; (obtain ⟨qv1, cv1, rfl⟩ := hv1.len); (have HV1 := Lib.hid hv1); clear hv1)
    | (go_at_call 36; refine (HTT.out _ (exf hwX)).mono ?_; rintro e w9 ⟨v1, v2, t1, t2, er, rfl, h1, h2, h3, X8, rfl⟩; rw [HTR.out] at h1; obtain ⟨⟨rfl, rfl⟩, rfl⟩ := (by simpa using h1 : (ch = t1 ∧ ws' = t2) ∧ 0 = er); (obtain ⟨qa, ca, rfl⟩ := h2.len); (obtain ⟨qc, cc, rfl⟩ := h3.len); (have HP2 := Lib.hid h2); (have HP3 := Lib.hid h3); clear h1 h2 h3)
    | (go_at_call 33; refine (l04_in_any TL _ x _ (HV1.out.mono exq)).mono ?_; rw [HIN.out]; rintro e w9 ⟨rfl, X9, rfl⟩))
  rename_i i9_4_1 i9_4_2 i9_4_3 i9_4_4 i9_4_5
  revert ts g by_ w q0 cp0 q1 cp1 q2 cp2 q3 cp3 HB HL HR HS HWF HCD qb cb HBB hg1 hg3 hg4 hg5 HGA HCK i9_1_1 i9_1_2 V hwV bb ob hmb bl ol hml T HTRI HPB HCB HPLL HCLL HBY HIDP HRT i9_3_1 i9_3_2 u10 u11 u12 u14 u15 u43 u44 u45 u46 u47 u48 u49 u50 u51 u52 u53 u54 u55 u56 u57 u58 u59 u60 u61 u62 u63 u64 u65 u66 u67 u68 u69 u70 u71 u72 u73 u74 u75 u76 u77 u78 u79 u80 u81 u82 u83 u84 u85 u86 u87 u88 u89 u90 u91 u92 u93 u94 u95 u96 u97 u98 u99 u100 u101 u102 u103 u104 u105 u106 u107 u108 u109 u110 u111 u112 u113 u114 u115 u116 u117 u118 u119 u120 i9_2_1 i9_2_2 i9_2_3 i9_2_4 U had h6l hul u6 u17 u18 u19 u20 u21 u127 u128 u129 u130 u131 u132 u133 u134 u135 u136 u137 u138 u139 u140 u141 u142 u143 u144 u145 u146 u147 u148 u149 u150 u151 u152 u153 u154 u155 u156 u157 u158 u159 u160 u161 u162 u163 u164 u165 u166 u167 u168 u169 u170 u171 u172 u173 u174 u175 u176 u177 ws hk ch ws' x TL ql cl L hcl hwl a1 a2 A hwX e0 g0 g1 g2 g3 g4 g5 g6 g7 l1 l2 HCH HWS HLEN HTR HIN HLEX HT1 HTT HRL i9_4_1 i9_4_2 i9_4_3 X3 qv1 cv1 HV1 X8 qa ca qc cc HP2 HP3 X9 i9_4_4 i9_4_5
  exact HG.out
end Go.Proofs.YtfjkiemjmnnbkaaGreatDoor

/-
  The law ScaleFirst: its walk.
-/
namespace Go.Proofs.YtfjkiemjmnnbkaaGreatDoor
open Go.RowKit Go.Maps Kr
set_option linter.unusedSimpArgs false

set_option maxRecDepth 100000 in
set_option maxHeartbeats 8000000 in
noncomputable def l04fs_any_c5 : { G : Prop // G → l04fs_any_c4.val } := by
  apply Subtype.mk
  case property =>
  intro hG
  have HG := Lib.hid hG
  clear hG
  intro ts g by_ w q0 cp0 q1 cp1 q2 cp2 q3 cp3 HB HL HR HS HWF HCD qb cb HBB hg1 hg3 hg4 hg5 HGA HCK i9_1_1 i9_1_2 V hwV bb ob hmb bl ol hml T HTRI HPB HCB HPLL HCLL HBY HIDP HRT i9_3_1 i9_3_2 u10 u11 u12 u14 u15 u43 u44 u45 u46 u47 u48 u49 u50 u51 u52 u53 u54 u55 u56 u57 u58 u59 u60 u61 u62 u63 u64 u65 u66 u67 u68 u69 u70 u71 u72 u73 u74 u75 u76 u77 u78 u79 u80 u81 u82 u83 u84 u85 u86 u87 u88 u89 u90 u91 u92 u93 u94 u95 u96 u97 u98 u99 u100 u101 u102 u103 u104 u105 u106 u107 u108 u109 u110 u111 u112 u113 u114 u115 u116 u117 u118 u119 u120 i9_2_1 i9_2_2 i9_2_3 i9_2_4 U had h6l hul u6 u17 u18 u19 u20 u21 u127 u128 u129 u130 u131 u132 u133 u134 u135 u136 u137 u138 u139 u140 u141 u142 u143 u144 u145 u146 u147 u148 u149 u150 u151 u152 u153 u154 u155 u156 u157 u158 u159 u160 u161 u162 u163 u164 u165 u166 u167 u168 u169 u170 u171 u172 u173 u174 u175 u176 u177 ws hk ch ws' x TL ql cl L hcl hwl a1 a2 A hwX e0 g0 g1 g2 g3 g4 g5 g6 g7 l1 l2 HCH HWS HLEN HTR HIN HLEX HT1 HTT HRL i9_4_1 i9_4_2 i9_4_3 X3 qv1 cv1 HV1 X8 qa ca qc cc HP2 HP3 X9 i9_4_4 i9_4_5
  obtain ⟨V3, hV3⟩ : ∃ W, World.ext _ X9 = W := ⟨_, rfl⟩
  have hE3 : A.Exts V3 := by rw [← hV3]; exact exq
  have b0 : V3.cell? ⟨(World.ext (World.ext A X3) X8).heap.size, 0, none⟩ = some (.slice qa ch.length ca) := by rw [← hV3]; simp [go_sem]
  have b1 : V3.cell? ⟨(World.ext (World.ext A X3) X8).heap.size, 1, none⟩ = some (.slice qc ws'.length cc) := by rw [← hV3]; simp [go_sem]
  have hp2 := HP2.out.mono (w' := V3) (by rw [← hV3]; exact exq)
  have hp3 := HP3.out.mono (w' := V3) (by rw [← hV3]; exact exq)
  have hrl := HRL.out.mono hE3
  have hwV3 := hwX.trans hE3
  rw [hV3]
  have nb0 := Lays.of_cell b0
  obtain ⟨pt, bt, ot, cpt, et, hmt, hpt, hct⟩ := hp2.ex
  simp only [Value.slice.injEq] at et
  obtain ⟨rfl, -, rfl⟩ := et
  clear hV3 hE3 hwX HP2 HP3 HRL HV1 HT1 HTT HTR HIN hp2 X9 a1 a2 e0 g0 g1 g2 g3 g4 g5 g6 g7 l1 l2
  have HP3 := Lib.hid hp3
  clear hp3
  have HRL := Lib.hid hrl
  clear hrl
  have HPT := Lib.hid hpt
  clear hpt
  have HCT := Lib.hid hct
  clear hct
  go_loopw [219, 26] (fun i mv wr => ∃ k : Nat, k ≤ ch.length ∧ i = .int .i64 k ∧ Hid (wr.ownsRow V3.heap.size 3 1 mv (flatT (ch.take k)).length (intCs (flatT (ch.take k)))) ∧ V3.Exts wr) (fun i _ _ => ch.length - (intOf i).toNat)
  case atStart => exact ⟨0, Nat.zero_le _, rfl, Lib.hid (World.ownsRow_nil _ _ _ _), World.Exts.refl _⟩
  case round =>
    obtain ⟨k, hk, rfl, HO, hE⟩ := hrel
    obtain ⟨X, rfl⟩ := hE
    rcases Nat.lt_or_ge k ch.length with hlt6 | hge6
    ·
      obtain ⟨q, hq⟩ := some_of_lt hlt6
      obtain ⟨rfl, hlayt⟩ := HPT.out (by omega)
      have hcs := HCT.out k q hq
      have f0 := hcs 0 _ rfl
      have f1 := hcs 1 _ rfl
      simp only [Nat.add_zero] at f0 f1
      have htk : flatT (ch.take (k + 1)) = flatT (ch.take k) ++ [q.gain, q.off] := by rw [take_snoc hq, flatT_snoc]
      have hfl : (flatT (ch.take k)).length ≤ 16 := by rw [flatT_len, List.length_take]; omega
      have HTK := Lib.hid htk
      clear htk
      clear hcs hq
      go_wp2_with (at_builtin; refine wpList_append_rowL (.tmp 223) (.tmp 228) (ys := [q.gain, q.off]) (enc := fun x : Int => [.int .i64 x]) elem_int rfl rfl rfl (ownsRow_exts HO.out (W := World.alloc (World.alloc (V3.ext X) (.cells #[.int .i64 q.gain, .int .i64 q.off] 61)) (.cells #[.int .i64 q.gain, .int .i64 q.off] 3)) exq) rfl (row_pr (World.alloc (V3.ext X) (.cells #[.int .i64 q.gain, .int .i64 q.off] 61)) q.gain q.off ((V3.ext X).heap.size + 1) (by simp)) (fun _ _ => rfl) (fun y _ u hu => by simp at hu; subst hu; rfl) (by simp; omega) (by decide) (by have := World.size_ext_le _ X; simp; omega) ?_)
      intro v' w2 hown2 happ2
      have hE2 := happ2.exts V3 exq (Nat.le_refl _)
      have hown3 : w2.ownsRow V3.heap.size 3 1 v' (flatT (ch.take (k + 1))).length (intCs (flatT (ch.take (k + 1)))) := by
        rw [HTK.out, List.length_append]
        have e : intCs (flatT (ch.take k) ++ [q.gain, q.off]) = intCs (flatT (ch.take k)) ++ [.int .i64 q.gain, .int .i64 q.off] := by unfold intCs; rw [List.flatMap_append]; rfl
        rw [e]
        simpa using hown2
      have HO3 := Lib.hid hown3
      clear hown3
      have HE2 := Lib.hid hE2
      clear hE2
      clear hown2 happ2
      go_wp2_with fail
      go_roundw
      case rel => exact ⟨k + 1, by omega, by go_num, HO3, HE2.out⟩
      case measure => simp [intOf]; omega
    obtain rfl : k = ch.length := by omega
    have hO := HO.out
    rw [List.take_length] at hO
    obtain ⟨qm, cm, hqm⟩ := owns_len hO
    have hfl : (flatT ch).length ≤ 16 := by rw [flatT_len]; omega
    have HO2 := Lib.hid hO
    clear hO
    clear HO
    go_wp2_with (at_builtin; refine wpList_append_rowL (.tmp 231) (.tmp 233) (ys := ws') (enc := fun x : Int => [.int .i64 x]) elem_int rfl rfl rfl (ownsRow_exts HO2.out exq) rfl (HP3.out.mono exq) (fun _ _ => rfl) (fun y _ u hu => by simp at hu; subst hu; rfl) (by omega) (by decide) (by have := World.size_ext_le _ X; simp; omega) ?_)
    intro v' w2 hown2 happ2
    have hE2 := happ2.exts V3 exq (Nat.le_refl _)
    have hrm : IsRow (fun x : Int => [.int .i64 x]) 1 w2 v' (flatT ch ++ ws') := by
      refine row_ints (base := V3.heap.size) (e := 3) ?_
      have e : intCs (flatT ch ++ ws') = intCs (flatT ch) ++ ws'.flatMap fun x => [.int .i64 x] := by unfold intCs; rw [List.flatMap_append]
      rw [List.length_append, e]
      simpa using hown2
    have hrl2 := HRL.out.mono hE2
    have hwW := hwV3.trans hE2
    obtain ⟨M, hM⟩ : ∃ M, flatT ch ++ ws' = M := ⟨_, rfl⟩
    have hml : M.length = L.length := by rw [← hM, List.length_append, flatT_len, HLEN.out]
    have hlex := HLEX.out
    rw [hM] at hrm hlex
    have hLb : L.length ≤ 22 := by have := HLEN.out; omega
    obtain ⟨p1, o1, u1, c1, r1, m1, h1, k1⟩ := hrm.ex
    subst r1
    obtain ⟨p2, o2, u2, c2, r2, m2, h2, k2⟩ := hrl2.ex
    simp only [Value.slice.injEq] at r2
    obtain ⟨rfl, -, rfl⟩ := r2
    have HLEX := Lib.hid hlex
    clear hlex
    have HML := Lib.hid hml
    clear hml
    have HH1 := Lib.hid h1
    clear h1
    have HK1 := Lib.hid k1
    clear k1
    have HH2 := Lib.hid h2
    clear h2
    have HK2 := Lib.hid k2
    clear k2
    clear hown2 happ2 hE2 hM hrm hrl2 HRL HLEN
    go_wp2_with fail
    rename_i i9_5_1 i9_5_2 i9_5_3 i9_5_4 i9_5_5 i9_5_6 i9_5_7
    revert ts g by_ w q0 cp0 q1 cp1 q2 cp2 q3 cp3 HB HL HR HS HWF HCD qb cb HBB hg1 hg3 hg4 hg5 HGA HCK i9_1_1 i9_1_2 V hwV bb ob hmb bl ol hml T HTRI HPB HCB HPLL HCLL HBY HIDP HRT i9_3_1 i9_3_2 u10 u11 u12 u14 u15 u43 u44 u45 u46 u47 u48 u49 u50 u51 u52 u53 u54 u55 u56 u57 u58 u59 u60 u61 u62 u63 u64 u65 u66 u67 u68 u69 u70 u71 u72 u73 u74 u75 u76 u77 u78 u79 u80 u81 u82 u83 u84 u85 u86 u87 u88 u89 u90 u91 u92 u93 u94 u95 u96 u97 u98 u99 u100 u101 u102 u103 u104 u105 u106 u107 u108 u109 u110 u111 u112 u113 u114 u115 u116 u117 u118 u119 u120 i9_2_1 i9_2_2 i9_2_3 i9_2_4 U had h6l hul u6 u17 u18 u19 u20 u21 u127 u128 u129 u130 u131 u132 u133 u134 u135 u136 u137 u138 u139 u140 u141 u142 u143 u144 u145 u146 u147 u148 u149 u150 u151 u152 u153 u154 u155 u156 u157 u158 u159 u160 u161 u162 u163 u164 u165 u166 u167 u168 u169 u170 u171 u172 u173 u174 u175 u176 u177 ws i9_5_1 ch ws' x TL ql cl L hcl hwl A HCH HWS i9_5_2 i9_4_1 i9_4_2 i9_4_3 X3 qv1 cv1 X8 qa ca qc cc i9_4_4 V3 b0 b1 hwV3 nb0 bt ot hmt HP3 HPT HCT u26 u28 u220 u221 u222 u223 u224 u225 u226 u227 u228 u229 u230 X hk hge6 qm cm hqm hfl HO2 i9_5_3 i9_5_4 i9_5_5 w2 hwW M hLb p1 o1 u1 c1 m1 o2 u2 m2 HLEX HML HH1 HK1 HH2 HK2 i9_5_6 i9_5_7
    exact HG.out
end Go.Proofs.YtfjkiemjmnnbkaaGreatDoor

/-
  The law ScaleFirst: its walk.
-/
namespace Go.Proofs.YtfjkiemjmnnbkaaGreatDoor
open Go.RowKit Go.Maps Kr
set_option linter.unusedSimpArgs false

set_option maxRecDepth 100000 in
set_option maxHeartbeats 8000000 in
theorem l04fs_any_last : l04fs_any_c5.val := by
  intro ts g by_ w q0 cp0 q1 cp1 q2 cp2 q3 cp3 HB HL HR HS HWF HCD qb cb HBB hg1 hg3 hg4 hg5 HGA HCK i9_1_1 i9_1_2 V hwV bb ob hmb bl ol hml T HTRI HPB HCB HPLL HCLL HBY HIDP HRT i9_3_1 i9_3_2 u10 u11 u12 u14 u15 u43 u44 u45 u46 u47 u48 u49 u50 u51 u52 u53 u54 u55 u56 u57 u58 u59 u60 u61 u62 u63 u64 u65 u66 u67 u68 u69 u70 u71 u72 u73 u74 u75 u76 u77 u78 u79 u80 u81 u82 u83 u84 u85 u86 u87 u88 u89 u90 u91 u92 u93 u94 u95 u96 u97 u98 u99 u100 u101 u102 u103 u104 u105 u106 u107 u108 u109 u110 u111 u112 u113 u114 u115 u116 u117 u118 u119 u120 i9_2_1 i9_2_2 i9_2_3 i9_2_4 U had h6l hul u6 u17 u18 u19 u20 u21 u127 u128 u129 u130 u131 u132 u133 u134 u135 u136 u137 u138 u139 u140 u141 u142 u143 u144 u145 u146 u147 u148 u149 u150 u151 u152 u153 u154 u155 u156 u157 u158 u159 u160 u161 u162 u163 u164 u165 u166 u167 u168 u169 u170 u171 u172 u173 u174 u175 u176 u177 ws i9_5_1 ch ws' x TL ql cl L hcl hwl A HCH HWS i9_5_2 i9_4_1 i9_4_2 i9_4_3 X3 qv1 cv1 X8 qa ca qc cc i9_4_4 V3 b0 b1 hwV3 nb0 bt ot hmt HP3 HPT HCT u26 u28 u220 u221 u222 u223 u224 u225 u226 u227 u228 u229 u230 X hk hge6 qm cm hqm hfl HO2 i9_5_3 i9_5_4 i9_5_5 w2 hwW M hLb p1 o1 u1 c1 m1 o2 u2 m2 HLEX HML HH1 HK1 HH2 HK2 i9_5_6 i9_5_7
  rw [HML.out]
  go_loopw [237] (fun i wr => ∃ k : Nat, k ≤ L.length ∧ i = .int .i64 k ∧ Hid (∀ j : Nat, j < k → M[j]? = L[j]?) ∧ w2.Exts wr) (fun i _ => L.length - (intOf i).toNat)
  case atStart => exact ⟨0, Nat.zero_le _, rfl, Lib.hid (fun j hj => absurd hj (Nat.not_lt_zero j)), World.Exts.refl _⟩
  case round =>
    obtain ⟨k, hk, rfl, HQ, hE⟩ := hrel
    obtain ⟨X12, rfl⟩ := hE
    rcases Nat.lt_or_ge k L.length with hlt7 | hge7
    ·
      obtain ⟨a, ha⟩ := some_of_lt (xs := M) (k := k) (by rw [HML.out]; exact hlt7)
      obtain ⟨c, hc⟩ := some_of_lt hlt7
      obtain ⟨rfl, hy1⟩ := HH1.out (by rw [HML.out]; omega)
      obtain ⟨rfl, hy2⟩ := HH2.out (by omega)
      have c0 := HK1.out k a ha 0 _ rfl
      have d0 := HK2.out k c hc 0 _ rfl
      simp only [Nat.mul_one, Nat.add_zero] at c0 d0
      have k3 : (0 : Int) ≤ (k : Int) := by omega
      have k4 : (k : Int) < (L.length : Int) := by omega
      by_cases hac : a = c
      · subst hac
        have hq2 : ∀ j : Nat, j < k + 1 → M[j]? = L[j]? := fun j hj => by
          rcases Nat.lt_succ_iff_lt_or_eq.1 hj with h | rfl
          · exact HQ.out j h
          · rw [ha, hc]
        have HQ2 := Lib.hid hq2
        clear hq2
        clear ha hc
        go_upto_region 50 with (fail)
        refine wp_region_ext (by kernel_rfl) (by kernel_rfl) ?_
        repeat (go_big_quiet_step (fail))
        refine wpQuiet_nil ?_
        rintro _ ⟨X, rfl⟩
        go_wp2_with fail
        go_roundw
        case rel => exact ⟨k + 1, by omega, by go_num, HQ2, exq⟩
        case measure => simp [intOf]; omega
      · have hlt := lexLe_at HLEX.out k a c ha hc HQ.out hac
        have k5 : (a != c) = true := by simpa using hac
        have k6 : decide (a < c) = true := by simpa using hlt
        have k7 : (a == c) = false := by simpa using hac
        clear ha hc
        go_upto_region 50 with (fail)
        refine wp_region_ext (by kernel_rfl) (by kernel_rfl) ?_
        repeat (go_big_quiet_step (fail))
        refine wpQuiet_nil ?_
        rintro _ ⟨X, rfl⟩
        go_upto_region 51 with (fail)
        refine wp_region_ext (by kernel_rfl) (by kernel_rfl) ?_
        repeat (go_big_quiet_step (fail))
        refine wpQuiet_nil ?_
        rintro _ ⟨X, rfl⟩
        go_wp2_with fail
        go_ret
        exact ⟨rfl, (exf hwW)⟩
    go_wp2_with fail
    go_ret
    exact ⟨rfl, (exf hwW)⟩
theorem l04fs_any (ts : List (Kr.Scale × Value)) (v : Value) (g : Gear) (lv rv sv : Value) (by_ : List Int) (bv : Value) (w : World) (hrow : BayAt w v ts)
    (hl : IsRow (fun t : Kr.Load => [.int .i64 t.scale, .int .i64 t.shown]) 2 w lv g.loads) (hr : IsRow (fun x : Int => [.int .i64 x]) 1 w rv g.runners) (hs : IsRow (fun x : Int => [.int .i64 x]) 1 w sv g.strokes) (hwf : ∀ l ∈ g.loads, (Lit.int .i64 l.scale).wf = true) (hby : IsRow (fun x : Int => [.int .u32 x]) 1 w bv by_) (hbb : ∀ x ∈ by_, 0 ≤ x ∧ x ≤ 4294967295) (hcd : CondsAt w) :
    Calls Tryz.prog 7 #[.agg #[v], .agg #[lv, .int .i64 g.added, .int .i64 g.base, .int .i64 g.jitter, rv, sv, .int .i64 g.spread, .bool g.stamp], bv] w fun e w' => e = .returned (.bool true) ∧ w.Exts w' :=
  (l04fs_any_c1.property (l04fs_any_c2.property (l04fs_any_c3.property (l04fs_any_c4.property (l04fs_any_c5.property l04fs_any_last))))) ts v g lv rv sv by_ bv w hrow hl hr hs hwf hby hbb hcd
end Go.Proofs.YtfjkiemjmnnbkaaGreatDoor
