/-
  The law ScaleAgain: its walk.
-/
import Derived.Test.YtfjkiemjmnnbkaaGreatDoorLAg1
namespace Go.Proofs.YtfjkiemjmnnbkaaGreatDoor
open Go.RowKit Kr
set_option linter.unusedSimpArgs false

set_option maxRecDepth 100000 in
set_option maxHeartbeats 8000000 in
noncomputable def l04ag_any_c2 : { G : Prop // G → l04ag_any_c1.val } := by
  apply Subtype.mk
  case property =>
  intro hG
  have HG := Lib.hid hG
  clear hG
  intro ts n ws by_ w q0 cp0 qw cw qb cb HB HWS HWB HBY HBB HCD hn8 HRDY h0 hb0 HN HNE HBAY HRT i9_1_1 ts' qS cS qT cT i9_1_2 i9_1_3 A hwA a0 m0 m1 m2 m3 m4 m5 m6 l1 l2 hnl hnu D H2 HBA HTA HDB HDT HDL
  go_loopw [12, 54] (fun tot i wr => ∃ (k : Nat) (v0 v1 : Value), k ≤ min ws.length 6 ∧ i = .int .i64 k ∧ tot = .int .i64 (sumW ws k) ∧ Hid (AgAt A wr v0 v1 (ldx D by_ ws 0 k) (ldx D by_ ws 1 k))) (fun _ i _ => min ws.length 6 - (intOf i).toNat)
  case atStart => exact ⟨0, _, _, Nat.zero_le _, rfl, rfl, Lib.hid (AgAt.start A)⟩
  case round =>
    obtain ⟨k, v0, v1, hk, rfl, rfl, HGA⟩ := hrel
    rcases Nat.lt_or_ge k (min ws.length 6) with hlt | hge
    ·
      have hk1 : k < ws.length := by omega
      have hk2 : k < 6 := by omega
      have hd1 : decide ((k : Int) < min (ws.length : Int) 6) = true := by simp; omega
      obtain ⟨qw', bw, ow, cw', e, hmw, hpw, hcw⟩ := (HWS.out.mono (hwA.trans HGA.out.ext)).ex
      simp only [Value.slice.injEq] at e
      obtain ⟨rfl, -, rfl⟩ := e
      obtain ⟨rfl, hlw⟩ := hpw (by omega)
      obtain ⟨x, hx⟩ := some_of_lt hk1
      have hcs := hcw k x hx
      have c0 := hcs 0 _ rfl
      simp only [Nat.mul_one, Nat.add_zero] at c0
      have hxb := HWB.out x (List.mem_of_getElem? hx)
      have hwx : wAt ws k = x % 1000001 := by unfold wAt; rw [List.getD_eq_getElem?_getD, hx]; rfl
      have e1 : x.tmod 1000001 = x % 1000001 := Int.tmod_eq_emod_of_nonneg hxb.1
      have hsb := sumW_bd ws k
      have hwb2 := wAt_bd (ws := ws) (i := k)
      have e2 : IntKind.i64.wrap (sumW ws k + wAt ws k) = sumW ws (k + 1) := by rw [sumW_succ]; exact IntWalk.i64_in _ (by omega)
      rw [← hwx] at e1
      have HWX := Lib.hid hwx
      clear hwx
      clear hx hcs hpw hcw hmw
      go_upto_region 14 with (fail)
      go_wp2_with fail
      obtain ⟨Wo, hWo⟩ : ∃ W, W = wr := ⟨_, rfl⟩
      subst hWo
      go_loopw [66] (fun i wr => ∃ (x : Nat) (u0 u1 : Value), x ≤ 2 ∧ i = .int .i64 x ∧ Hid (AgAt A wr u0 u1 (ldx D by_ ws 0 (if 0 < x then k + 1 else k)) (ldx D by_ ws 1 (if 1 < x then k + 1 else k)))) (fun i _ => 2 - (intOf i).toNat)
      case atStart => exact ⟨0, _, _, by omega, rfl, Lib.hid (by simpa using HGA.out)⟩
      case round =>
        obtain ⟨x, u0, u1, hx2, rfl, HI⟩ := hrel
        clear HGA
        obtain rfl | rfl | rfl : x = 0 ∨ x = 1 ∨ x = 2 := by omega
        ·
          have hI : AgAt A wr u0 u1 (ldx D by_ ws 0 k) (ldx D by_ ws 1 k) := by simpa using HI.out
          have hkx : kAt by_ ts'.length 0 k < ts'.length := kAt_lt hnl
          obtain ⟨⟨s', tv⟩, hs⟩ := some_of_lt (xs := ts') hkx
          obtain ⟨⟨s, t⟩, hD⟩ := some_of_lt (xs := D) (k := kAt by_ ts'.length 0 k) (by rw [HDL.out]; exact hkx)
          obtain rfl : s' = drawS t s := by
            have h1 := congrArg (fun l => l[kAt by_ ts'.length 0 k]?) H2.out
            simp only [drawB, List.getElem?_map, hs, hD, Option.map_some, Option.some.injEq] at h1
            exact h1
          have hsr : right s = true := bayOk_right HDB.out s (List.mem_map.2 ⟨_, List.mem_of_getElem? hD, rfl⟩)
          have hok : TuneOk s t := HDT.out _ (List.mem_of_getElem? hD)
          have hld : loadBy D (kAt by_ ts'.length 0 k, wAt ws k) = ⟨s.id, readAt s.step (wAt ws k) t.1 t.2⟩ := by unfold loadBy; rw [hD]
          obtain ⟨hid, hst, hgn, hof, -, -⟩ := right_bounds hsr
          unfold TuneOk at hok
          have hkl : (ldx D by_ ws 0 (k + 1)) = ldx D by_ ws 0 k ++ [⟨s.id, readAt s.step (wAt ws k) t.1 t.2⟩] := by rw [ldx_succ, HDL.out, hld]
          obtain ⟨qS', bS, oS, cS', e, hmS, hpS, hcS⟩ := HBA.out.row.ex
          simp only [Value.slice.injEq] at e
          obtain ⟨rfl, -, rfl⟩ := e
          obtain ⟨rfl, hlS⟩ := hpS (by omega)
          have hcs := hcS _ _ hs
          have c0 := hcs 0 _ rfl
          have c1 := hcs 1 _ rfl
          have c2 := hcs 2 _ rfl
          have c3 := hcs 3 _ rfl
          have c4 := hcs 4 _ rfl
          have c5 := hcs 5 _ rfl
          have c6 := hcs 6 _ rfl
          simp only [Nat.add_zero] at c0 c1 c2 c3 c4 c5 c6
          obtain ⟨qtv, ctv, etv⟩ := (HBA.out.tr _ (List.mem_of_getElem? hs)).len
          dsimp only at etv
          subst etv
          obtain ⟨qT', bT, oT, cT', e, hmT, hpT, hcT⟩ := HTA.out.ex
          simp only [Value.slice.injEq] at e
          obtain ⟨rfl, -, rfl⟩ := e
          obtain ⟨rfl, hlT⟩ := hpT (by rw [List.length_map, HDL.out]; omega)
          have hct := hcT (kAt by_ ts'.length 0 k) t (by rw [List.getElem?_map, hD]; rfl)
          have t0 := hct 0 _ rfl
          have t1 := hct 1 _ rfl
          simp only [Nat.add_zero] at t0 t1
          dsimp only [drawS] at c0 c1 c2 c3 c4 c5 c6
          have hch := chooseL_bd HBB.out (8 + 2 * k + 0)
          have e1 : (chooseL by_ (8 + 2 * k + 0)).tmod (ts'.length : Int) = (kAt by_ ts'.length 0 k : Int) := by rw [Int.tmod_eq_emod_of_nonneg hch.1]; exact kAt_int hnl
          have a1 : IntKind.i64.wrap (2 * (k : Int)) = 2 * (k : Int) := IntWalk.i64_in _ (by omega)
          have a2 : IntKind.i64.wrap (8 + 2 * (k : Int)) = 8 + 2 * (k : Int) := IntWalk.i64_in _ (by omega)
          have a3 : IntKind.i64.wrap (8 + 2 * (k : Int) + 0) = 8 + 2 * (k : Int) + 0 := IntWalk.i64_in _ (by omega)
          have w3 : ((ts'.length : Int) == 0) = false := beq_eq_false_iff_ne.2 (by omega)
          have d4 := hI.ext.cell a0
          have n4 := Lays.of_cell d4
          have hEw := hwA.trans hI.ext
          generalize hr : chooseL by_ (8 + 2 * k + 0) = r at e1
          generalize kAt by_ ts'.length 0 k = kx at *
          have hcr := fun (W : World) => l04_reads_any s (.slice qtv s.trials.length ctv) t.1 t.2 (wAt ws k) W hst (by omega) (by omega) hwb2
          generalize readAt s.step (wAt ws k) t.1 t.2 = rd at *
          have HCR := Lib.hid hcr
          clear hcr
          have w4 : (0 : Int) ≤ (kx : Int) := by omega
          have w5 : (kx : Int) < (ts'.length : Int) := by omega
          have HR := Lib.hid hr
          clear hr
          have HJ := Lib.hid hI
          clear hI
          have HKL := Lib.hid hkl
          clear hkl
          clear hs hD hct hcT hpT hcs hcS hpS hld HI
          go_upto_region 17 with (fail)
          refine wp_region_ext (by kernel_rfl) (by kernel_rfl) ?_
          repeat (go_big_quiet_step ((go_at_call 25; exact Calls.in_ext_eq (l04_choose_at by_ _ (8 + 2 * k + 0) _ _ (HBY.out.mono (hEw.trans ⟨_, rfl⟩)) HBB.out (by omega) (by omega)) (by rw [HR.out]))))
          refine wpQuiet_nil ?_
          rintro _ ⟨X, rfl⟩
          go_upto_region 18 with (fail)
          obtain ⟨W1, hW1⟩ : ∃ W, World.ext wr X = W := ⟨_, rfl⟩
          have hJ1 := HJ.out.exts (W' := W1) (by rw [← hW1]; exact ⟨X, rfl⟩)
          rw [hW1]
          clear hW1 d4 n4 e1 a1 a2 a3 w3 HR hEw HJ
          have HJ1 := Lib.hid hJ1
          clear hJ1
          clear X
          have hG1 : AgG A (agCells u0 u1) u0 u1 (ldx D by_ ws 1 k) W1 := ⟨HJ1.out.ext, HJ1.out.o, HJ1.out.r1, fun b hb => (HJ1.out.r0.lt b hb).2⟩
          haveI : Nonempty (GW (AgG A (agCells u0 u1) u0 u1 (ldx D by_ ws 1 k))) := ⟨⟨W1, hG1⟩⟩
          have kA := fun (Y : GW (AgG A (agCells u0 u1) u0 u1 (ldx D by_ ws 1 k))) => (Y.h.ext.cell a0 : Y.w.cell? ⟨w.heap.size, 0, none⟩ = _)
          have kp := fun (Y : GW (AgG A (agCells u0 u1) u0 u1 (ldx D by_ ws 1 k))) => (LaysAs.cell Y.h.o 0 _ rfl : Y.w.cell? ⟨A.heap.size, 0, none⟩ = some u0)
          have k0 := fun (Y : GW (AgG A (agCells u0 u1) u0 u1 (ldx D by_ ws 1 k))) => Y.h.ext.cell c0
          have k1 := fun (Y : GW (AgG A (agCells u0 u1) u0 u1 (ldx D by_ ws 1 k))) => Y.h.ext.cell c1
          have k2 := fun (Y : GW (AgG A (agCells u0 u1) u0 u1 (ldx D by_ ws 1 k))) => Y.h.ext.cell c2
          have k3 := fun (Y : GW (AgG A (agCells u0 u1) u0 u1 (ldx D by_ ws 1 k))) => Y.h.ext.cell c3
          have k4 := fun (Y : GW (AgG A (agCells u0 u1) u0 u1 (ldx D by_ ws 1 k))) => Y.h.ext.cell c4
          have k5 := fun (Y : GW (AgG A (agCells u0 u1) u0 u1 (ldx D by_ ws 1 k))) => Y.h.ext.cell c5
          have k6 := fun (Y : GW (AgG A (agCells u0 u1) u0 u1 (ldx D by_ ws 1 k))) => Y.h.ext.cell c6
          have kt0 := fun (Y : GW (AgG A (agCells u0 u1) u0 u1 (ldx D by_ ws 1 k))) => Y.h.ext.cell t0
          have kt1 := fun (Y : GW (AgG A (agCells u0 u1) u0 u1 (ldx D by_ ws 1 k))) => Y.h.ext.cell t1
          have hkD : kx < D.length := by rw [HDL.out]; exact hkx
          have hal : Tryz.prog.arrayLen 79 = 2 := by kernel_rfl
          simp only [show ((0 : Nat) : Int) = (0 : Int) from rfl]
          refine wp_region_inv 27 (fun i => i == 21 || i == 22 || i == 23 || i == 24) (AgPhi A 21 22 23 24 u0 u1 (ldx D by_ ws 0 k) ⟨s.id, rd⟩) (AgG A (agCells u0 u1) u0 u1 (ldx D by_ ws 1 k)) (AgInv A (agCells u0 u1) u0 u1 (ldx D by_ ws 0 k) (ldx D by_ ws 1 k) 24) (by kernel_rfl) (fun ν => by kernel_rfl) (by kernel_rfl) (by kernel_rfl) (by kernel_rfl) (by kernel_rfl) (fun _ _ h => h.1) (fun listed W i hi hU h => h.same (fun e => by subst e; simp at hU)) (AgInv.start hG1 HJ1.out.r0) ?_
          apply Exists.intro
          refine ⟨fun ν L hL => ?_, fun c oc hc hU ν listed W hsz hInv hun hΦ => ?_, fun ν listed W hInv hall hΦ => ?_⟩
          · simp only [modU, cOp, List.mapIdx_cons, List.mapIdx_nil, Nat.zero_add, Nat.reduceAdd, Nat.reduceBEq, Bool.or_false, Bool.false_or, Bool.or_true, Bool.true_or, Bool.or_self, Bool.false_eq_true, if_false, if_true, List.take_succ_cons, List.take_zero]
            repeat (go_big_quiet_step (fail))
            exact wpQuiet_nil hL
          · simp at hU
            rcases hU with ((rfl | rfl) | rfl) | rfl
            · simp only [List.getElem?_cons_succ, List.getElem?_cons_zero, Option.some.injEq] at hc
              subst hc
              refine .inl (Oper.gives_fn rfl rfl rfl (enters_of Tryz.func26 (by kernel_rfl) rfl) ?_ rfl)
              simp only [List.map_cons, List.map_nil, Act.eval, go_sem, Array.getD_eq_getD_getElem?, List.getElem?_toArray, List.getElem?_cons_succ, List.getElem?_cons_zero, Option.getD_some]
              refine (HCR.out W).mono ?_
              rintro e W' ⟨rfl, hE⟩
              exact ⟨_, rfl, hInv.exts (by decide) hE, ⟨fun _ => rfl, fun e => (by cases e), fun e => (by cases e), fun e => (by cases e)⟩, fun _ _ _ _ h => h.exts hE⟩
            · simp only [List.getElem?_cons_succ, List.getElem?_cons_zero, Option.some.injEq] at hc
              subst hc
              have h21 := (hΦ 21 rfl ⟨⟨21, .data⟩, by simp, rfl, rfl⟩).1 rfl
              exact gives_load (a := s.id) (b := rd) rfl rfl h21 ⟨hInv.same (by decide), ⟨fun e => (by cases e), fun _ => rfl, fun e => (by cases e), fun e => (by cases e)⟩, fun _ _ _ _ h => h⟩
            · simp only [List.getElem?_cons_succ, List.getElem?_cons_zero, Option.some.injEq] at hc
              subst hc
              have h22 := (hΦ 22 rfl ⟨⟨22, .data⟩, by simp, rfl, rfl⟩).2.1 rfl
              exact gives_loads (a := s.id) (b := rd) rfl h22 ⟨hInv.exts (by decide) ((World.Exts.refl W).alloc _), ⟨fun e => (by cases e), fun e => (by cases e), fun _ => ⟨W.heap.size, rfl, laysAs_size W _ rfl, fun e => Nat.lt_irrefl _ (hInv.1.sx _ e)⟩, fun e => (by cases e)⟩, fun _ _ _ _ h => h.exts ((World.Exts.refl W).alloc _)⟩
            · simp only [List.getElem?_cons_succ, List.getElem?_cons_zero, Option.some.injEq] at hc
              subst hc
              obtain ⟨nb, hν, hlay, hnb⟩ := (hΦ 23 rfl ⟨⟨23, .data⟩, by simp, rfl, rfl⟩).2.2.1 rfl
              refine gives_append (.tmp 84) (.tmp 103) elem_Load rfl rfl (hInv.2 hun) [.int .i64 s.id, .int .i64 rd] nb hν (fun j u hj => LaysAs.cell hlay j u hj) rfl (fun u hu => by simp at hu; rcases hu with rfl | rfl <;> rfl) (by rw [ldx_len]; omega) (by decide) (LaysAs.lt hInv.1.o) ?_
              intro v' w' hown happ
              obtain ⟨h1, h2, h3⟩ := hInv.appended (ci := 21) (cb := 22) (cs := 23) (x := ⟨s.id, rd⟩) hun (fun b hb e => HJ1.out.ne b e hb) hown happ (by rw [hsz]; decide) (by decide) (by decide) (by decide)
              exact ⟨h1, h2, fun c' _ _ hl h => h3 c' _ hl h⟩
          simp only [List.drop_succ_cons, List.drop_zero]
          obtain ⟨h24, hne24⟩ := (hΦ 24 (by decide) rfl).2.2.2 rfl
          obtain ⟨qv, cv, ev⟩ := owns_len h24
          have hpush := AgAt.push0 (x := ⟨s.id, rd⟩) hInv.1.ext hInv.1.o hInv.1.ro h24 hne24
          rw [← HKL.out] at hpush
          have s0 := LaysAs.cell hInv.1.o 0 _ rfl
          have f0 : W.frozen? ⟨A.heap.size, 0, none⟩ = false := laysAs_frozen hInv.1.o
          have nl := Lays.of_cell s0
          generalize ν 24 = vn at *
          subst ev
          have HPU := Lib.hid hpush
          clear hpush
          clear hInv hΦ hall h24 hne24 kA kp k0 k1 k2 k3 k4 k5 k6 kt0 kt1 hG1
          go_wp2_with fail
          go_roundw
          case rel => exact ⟨1, _, _, by omega, by go_num, Lib.hid (by simpa using HPU.out)⟩
          case measure => simp [intOf]
        ·
          have hI : AgAt A wr u0 u1 (ldx D by_ ws 0 (k + 1)) (ldx D by_ ws 1 k) := by simpa using HI.out
          have hkx : kAt by_ ts'.length 1 k < ts'.length := kAt_lt hnl
          obtain ⟨⟨s', tv⟩, hs⟩ := some_of_lt (xs := ts') hkx
          obtain ⟨⟨s, t⟩, hD⟩ := some_of_lt (xs := D) (k := kAt by_ ts'.length 1 k) (by rw [HDL.out]; exact hkx)
          obtain rfl : s' = drawS t s := by
            have h1 := congrArg (fun l => l[kAt by_ ts'.length 1 k]?) H2.out
            simp only [drawB, List.getElem?_map, hs, hD, Option.map_some, Option.some.injEq] at h1
            exact h1
          have hsr : right s = true := bayOk_right HDB.out s (List.mem_map.2 ⟨_, List.mem_of_getElem? hD, rfl⟩)
          have hok : TuneOk s t := HDT.out _ (List.mem_of_getElem? hD)
          have hld : loadBy D (kAt by_ ts'.length 1 k, wAt ws k) = ⟨s.id, readAt s.step (wAt ws k) t.1 t.2⟩ := by unfold loadBy; rw [hD]
          obtain ⟨hid, hst, hgn, hof, -, -⟩ := right_bounds hsr
          unfold TuneOk at hok
          have hkl : (ldx D by_ ws 1 (k + 1)) = ldx D by_ ws 1 k ++ [⟨s.id, readAt s.step (wAt ws k) t.1 t.2⟩] := by rw [ldx_succ, HDL.out, hld]
          obtain ⟨qS', bS, oS, cS', e, hmS, hpS, hcS⟩ := HBA.out.row.ex
          simp only [Value.slice.injEq] at e
          obtain ⟨rfl, -, rfl⟩ := e
          obtain ⟨rfl, hlS⟩ := hpS (by omega)
          have hcs := hcS _ _ hs
          have c0 := hcs 0 _ rfl
          have c1 := hcs 1 _ rfl
          have c2 := hcs 2 _ rfl
          have c3 := hcs 3 _ rfl
          have c4 := hcs 4 _ rfl
          have c5 := hcs 5 _ rfl
          have c6 := hcs 6 _ rfl
          simp only [Nat.add_zero] at c0 c1 c2 c3 c4 c5 c6
          obtain ⟨qtv, ctv, etv⟩ := (HBA.out.tr _ (List.mem_of_getElem? hs)).len
          dsimp only at etv
          subst etv
          obtain ⟨qT', bT, oT, cT', e, hmT, hpT, hcT⟩ := HTA.out.ex
          simp only [Value.slice.injEq] at e
          obtain ⟨rfl, -, rfl⟩ := e
          obtain ⟨rfl, hlT⟩ := hpT (by rw [List.length_map, HDL.out]; omega)
          have hct := hcT (kAt by_ ts'.length 1 k) t (by rw [List.getElem?_map, hD]; rfl)
          have t0 := hct 0 _ rfl
          have t1 := hct 1 _ rfl
          simp only [Nat.add_zero] at t0 t1
          dsimp only [drawS] at c0 c1 c2 c3 c4 c5 c6
          have hch := chooseL_bd HBB.out (8 + 2 * k + 1)
          have e1 : (chooseL by_ (8 + 2 * k + 1)).tmod (ts'.length : Int) = (kAt by_ ts'.length 1 k : Int) := by rw [Int.tmod_eq_emod_of_nonneg hch.1]; exact kAt_int hnl
          have a1 : IntKind.i64.wrap (2 * (k : Int)) = 2 * (k : Int) := IntWalk.i64_in _ (by omega)
          have a2 : IntKind.i64.wrap (8 + 2 * (k : Int)) = 8 + 2 * (k : Int) := IntWalk.i64_in _ (by omega)
          have a3 : IntKind.i64.wrap (8 + 2 * (k : Int) + 1) = 8 + 2 * (k : Int) + 1 := IntWalk.i64_in _ (by omega)
          have w3 : ((ts'.length : Int) == 0) = false := beq_eq_false_iff_ne.2 (by omega)
          have d4 := hI.ext.cell a0
          have n4 := Lays.of_cell d4
          have hEw := hwA.trans hI.ext
          generalize hr : chooseL by_ (8 + 2 * k + 1) = r at e1
          generalize kAt by_ ts'.length 1 k = kx at *
          have hcr := fun (W : World) => l04_reads_any s (.slice qtv s.trials.length ctv) t.1 t.2 (wAt ws k) W hst (by omega) (by omega) hwb2
          generalize readAt s.step (wAt ws k) t.1 t.2 = rd at *
          have HCR := Lib.hid hcr
          clear hcr
          have w4 : (0 : Int) ≤ (kx : Int) := by omega
          have w5 : (kx : Int) < (ts'.length : Int) := by omega
          have HR := Lib.hid hr
          clear hr
          have HJ := Lib.hid hI
          clear hI
          have HKL := Lib.hid hkl
          clear hkl
          clear hs hD hct hcT hpT hcs hcS hpS hld HI
          go_upto_region 17 with (fail)
          refine wp_region_ext (by kernel_rfl) (by kernel_rfl) ?_
          repeat (go_big_quiet_step ((go_at_call 25; exact Calls.in_ext_eq (l04_choose_at by_ _ (8 + 2 * k + 1) _ _ (HBY.out.mono (hEw.trans ⟨_, rfl⟩)) HBB.out (by omega) (by omega)) (by rw [HR.out]))))
          refine wpQuiet_nil ?_
          rintro _ ⟨X, rfl⟩
          go_upto_region 18 with (fail)
          obtain ⟨W1, hW1⟩ : ∃ W, World.ext wr X = W := ⟨_, rfl⟩
          have hJ1 := HJ.out.exts (W' := W1) (by rw [← hW1]; exact ⟨X, rfl⟩)
          rw [hW1]
          clear hW1 d4 n4 e1 a1 a2 a3 w3 HR hEw HJ
          have HJ1 := Lib.hid hJ1
          clear hJ1
          clear X
          have hG1 : AgG A (agCells u0 u1) u1 u0 (ldx D by_ ws 0 (k + 1)) W1 := ⟨HJ1.out.ext, HJ1.out.o, HJ1.out.r0, fun b hb => (HJ1.out.r1.lt b hb).2⟩
          haveI : Nonempty (GW (AgG A (agCells u0 u1) u1 u0 (ldx D by_ ws 0 (k + 1)))) := ⟨⟨W1, hG1⟩⟩
          have kA := fun (Y : GW (AgG A (agCells u0 u1) u1 u0 (ldx D by_ ws 0 (k + 1)))) => (Y.h.ext.cell a0 : Y.w.cell? ⟨w.heap.size, 0, none⟩ = _)
          have kp := fun (Y : GW (AgG A (agCells u0 u1) u1 u0 (ldx D by_ ws 0 (k + 1)))) => (LaysAs.cell Y.h.o 8 _ rfl : Y.w.cell? ⟨A.heap.size, 8, none⟩ = some u1)
          have k0 := fun (Y : GW (AgG A (agCells u0 u1) u1 u0 (ldx D by_ ws 0 (k + 1)))) => Y.h.ext.cell c0
          have k1 := fun (Y : GW (AgG A (agCells u0 u1) u1 u0 (ldx D by_ ws 0 (k + 1)))) => Y.h.ext.cell c1
          have k2 := fun (Y : GW (AgG A (agCells u0 u1) u1 u0 (ldx D by_ ws 0 (k + 1)))) => Y.h.ext.cell c2
          have k3 := fun (Y : GW (AgG A (agCells u0 u1) u1 u0 (ldx D by_ ws 0 (k + 1)))) => Y.h.ext.cell c3
          have k4 := fun (Y : GW (AgG A (agCells u0 u1) u1 u0 (ldx D by_ ws 0 (k + 1)))) => Y.h.ext.cell c4
          have k5 := fun (Y : GW (AgG A (agCells u0 u1) u1 u0 (ldx D by_ ws 0 (k + 1)))) => Y.h.ext.cell c5
          have k6 := fun (Y : GW (AgG A (agCells u0 u1) u1 u0 (ldx D by_ ws 0 (k + 1)))) => Y.h.ext.cell c6
          have kt0 := fun (Y : GW (AgG A (agCells u0 u1) u1 u0 (ldx D by_ ws 0 (k + 1)))) => Y.h.ext.cell t0
          have kt1 := fun (Y : GW (AgG A (agCells u0 u1) u1 u0 (ldx D by_ ws 0 (k + 1)))) => Y.h.ext.cell t1
          have hkD : kx < D.length := by rw [HDL.out]; exact hkx
          have hal : Tryz.prog.arrayLen 79 = 2 := by kernel_rfl
          simp only [show ((1 : Nat) : Int) = (1 : Int) from rfl]
          refine wp_region_inv 27 (fun i => i == 21 || i == 22 || i == 23 || i == 24) (AgPhi A 21 22 23 24 u1 u0 (ldx D by_ ws 1 k) ⟨s.id, rd⟩) (AgG A (agCells u0 u1) u1 u0 (ldx D by_ ws 0 (k + 1))) (AgInv A (agCells u0 u1) u1 u0 (ldx D by_ ws 1 k) (ldx D by_ ws 0 (k + 1)) 24) (by kernel_rfl) (fun ν => by kernel_rfl) (by kernel_rfl) (by kernel_rfl) (by kernel_rfl) (by kernel_rfl) (fun _ _ h => h.1) (fun listed W i hi hU h => h.same (fun e => by subst e; simp at hU)) (AgInv.start hG1 HJ1.out.r1) ?_
          apply Exists.intro
          refine ⟨fun ν L hL => ?_, fun c oc hc hU ν listed W hsz hInv hun hΦ => ?_, fun ν listed W hInv hall hΦ => ?_⟩
          · simp only [modU, cOp, List.mapIdx_cons, List.mapIdx_nil, Nat.zero_add, Nat.reduceAdd, Nat.reduceBEq, Bool.or_false, Bool.false_or, Bool.or_true, Bool.true_or, Bool.or_self, Bool.false_eq_true, if_false, if_true, List.take_succ_cons, List.take_zero]
            repeat (go_big_quiet_step (fail))
            exact wpQuiet_nil hL
          · simp at hU
            rcases hU with ((rfl | rfl) | rfl) | rfl
            · simp only [List.getElem?_cons_succ, List.getElem?_cons_zero, Option.some.injEq] at hc
              subst hc
              refine .inl (Oper.gives_fn rfl rfl rfl (enters_of Tryz.func26 (by kernel_rfl) rfl) ?_ rfl)
              simp only [List.map_cons, List.map_nil, Act.eval, go_sem, Array.getD_eq_getD_getElem?, List.getElem?_toArray, List.getElem?_cons_succ, List.getElem?_cons_zero, Option.getD_some]
              refine (HCR.out W).mono ?_
              rintro e W' ⟨rfl, hE⟩
              exact ⟨_, rfl, hInv.exts (by decide) hE, ⟨fun _ => rfl, fun e => (by cases e), fun e => (by cases e), fun e => (by cases e)⟩, fun _ _ _ _ h => h.exts hE⟩
            · simp only [List.getElem?_cons_succ, List.getElem?_cons_zero, Option.some.injEq] at hc
              subst hc
              have h21 := (hΦ 21 rfl ⟨⟨21, .data⟩, by simp, rfl, rfl⟩).1 rfl
              exact gives_load (a := s.id) (b := rd) rfl rfl h21 ⟨hInv.same (by decide), ⟨fun e => (by cases e), fun _ => rfl, fun e => (by cases e), fun e => (by cases e)⟩, fun _ _ _ _ h => h⟩
            · simp only [List.getElem?_cons_succ, List.getElem?_cons_zero, Option.some.injEq] at hc
              subst hc
              have h22 := (hΦ 22 rfl ⟨⟨22, .data⟩, by simp, rfl, rfl⟩).2.1 rfl
              exact gives_loads (a := s.id) (b := rd) rfl h22 ⟨hInv.exts (by decide) ((World.Exts.refl W).alloc _), ⟨fun e => (by cases e), fun e => (by cases e), fun _ => ⟨W.heap.size, rfl, laysAs_size W _ rfl, fun e => Nat.lt_irrefl _ (hInv.1.sx _ e)⟩, fun e => (by cases e)⟩, fun _ _ _ _ h => h.exts ((World.Exts.refl W).alloc _)⟩
            · simp only [List.getElem?_cons_succ, List.getElem?_cons_zero, Option.some.injEq] at hc
              subst hc
              obtain ⟨nb, hν, hlay, hnb⟩ := (hΦ 23 rfl ⟨⟨23, .data⟩, by simp, rfl, rfl⟩).2.2.1 rfl
              refine gives_append (.tmp 84) (.tmp 103) elem_Load rfl rfl (hInv.2 hun) [.int .i64 s.id, .int .i64 rd] nb hν (fun j u hj => LaysAs.cell hlay j u hj) rfl (fun u hu => by simp at hu; rcases hu with rfl | rfl <;> rfl) (by rw [ldx_len]; omega) (by decide) (LaysAs.lt hInv.1.o) ?_
              intro v' w' hown happ
              obtain ⟨h1, h2, h3⟩ := hInv.appended (ci := 21) (cb := 22) (cs := 23) (x := ⟨s.id, rd⟩) hun (HJ1.out.ne) hown happ (by rw [hsz]; decide) (by decide) (by decide) (by decide)
              exact ⟨h1, h2, fun c' _ _ hl h => h3 c' _ hl h⟩
          simp only [List.drop_succ_cons, List.drop_zero]
          obtain ⟨h24, hne24⟩ := (hΦ 24 (by decide) rfl).2.2.2 rfl
          obtain ⟨qv, cv, ev⟩ := owns_len h24
          have hpush := AgAt.push1 (x := ⟨s.id, rd⟩) hInv.1.ext hInv.1.o hInv.1.ro h24 hne24
          rw [← HKL.out] at hpush
          have s0 := LaysAs.cell hInv.1.o 8 _ rfl
          have f0 : W.frozen? ⟨A.heap.size, 8, none⟩ = false := laysAs_frozen hInv.1.o
          have nl := Lays.of_cell s0
          generalize ν 24 = vn at *
          subst ev
          have HPU := Lib.hid hpush
          clear hpush
          clear hInv hΦ hall h24 hne24 kA kp k0 k1 k2 k3 k4 k5 k6 kt0 kt1 hG1
          go_wp2_with fail
          go_roundw
          case rel => exact ⟨2, _, _, by omega, by go_num, Lib.hid (by simpa using HPU.out)⟩
          case measure => simp [intOf]
        · have hI : AgAt A wr u0 u1 (ldx D by_ ws 0 (k + 1)) (ldx D by_ ws 1 (k + 1)) := by simpa using HI.out
          have HJ := Lib.hid hI
          clear hI
          clear HI
          go_wp2_with fail
          go_roundw
          case rel => exact ⟨k + 1, _, _, by omega, by go_num, rfl, Lib.hid HJ.out⟩
          case measure => simp [intOf]; omega
    have hkn : k = min ws.length 6 := by omega
    have hd0 : decide ((k : Int) < min (ws.length : Int) 6) = false := by simp; omega
    go_upto_region 21 with (fail)
    rename_i i9_2_1 i9_2_2 i9_2_3 i9_2_4 i9_2_5 i9_2_6
    revert ts n ws by_ w q0 cp0 qw cw qb cb HB HWS HWB HBY HBB HCD hn8 HRDY h0 hb0 HN HNE HBAY HRT i9_1_1 ts' qS cS qT cT i9_1_2 A hwA a0 m0 m1 m2 m3 m4 m5 m6 l1 l2 hnl hnu D H2 HBA HTA HDB HDT HDL wr u13 u14 u15 u16 u55 u56 u57 u58 u59 u60 u61 u62 u63 u64 u65 u66 u67 u68 u69 u70 u71 u72 u73 u74 u75 u76 u77 u78 u79 u80 u81 u82 u83 u84 u85 u86 u87 u88 u89 u90 u91 u92 u93 u94 u95 u96 u97 u98 u99 u100 u101 u102 u103 u104 u105 u106 u107 u108 k v0 v1 hk HGA hge hkn hd0 i9_2_1 i9_2_2 i9_2_3 i9_2_4 i9_2_5 i9_2_6
    exact HG.out
end Go.Proofs.YtfjkiemjmnnbkaaGreatDoor
