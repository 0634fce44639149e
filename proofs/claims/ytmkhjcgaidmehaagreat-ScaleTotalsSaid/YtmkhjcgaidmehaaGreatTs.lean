/-
  Several texts in one: see the heads of its parts.
-/
import Derived.Test.YtmkhjcgaidmehaaGreatTsA

/-
  Walks of the reference: Truth.
-/
namespace Go.Proofs.YtmkhjcgaidmehaaGreat
open Go.RowKit Kr
set_option linter.unusedSimpArgs false

set_option maxRecDepth 4000 in
set_option maxHeartbeats 4000000 in
theorem r04_Truth_run (ts : List (Kr.Scale × Value)) (v : Value) (g : Gear) (lv rv sv : Value) (total : Int) (w : World) (hb : BayAt w v ts) (hg : GearAt w (g, lv, rv, sv)) (hz : check (ts.map Prod.fst) g = 0) (hto : inb 0 10000000 total = true) :
    Calls Tryz.prog 10 #[.agg #[v], .agg #[lv, .int .i64 g.added, .int .i64 g.base, .int .i64 g.jitter, rv, sv, .int .i64 g.spread, .bool g.stamp], .int .i64 total] w fun e w' => ∃ v1 v2 t1 t2 er, e = .returned (.tuple #[.agg #[v1, v2], .int .i64 er]) ∧ truthR (ts.map Prod.fst) g total = ((t1, t2), er) ∧ IsRow (fun q : Part => [.int .i64 q.gain, .int .i64 q.off]) 2 w' v1 t1 ∧ IsRow (fun x : Int => [.int .i64 x]) 1 w' v2 t2 ∧ w.Exts w' := by
  obtain ⟨hz1, hz2⟩ := check_zero hz
  have hok := check_ok hz1 hz2
  have hrt : ∀ x ∈ ts, right x.1 = true := fun x hx => hok.rt _ (List.mem_map.2 ⟨x, hx, rfl⟩)
  have hsh : ∀ x ∈ ts, ∀ l ∈ g.loads, l.scale = x.1.id → -2000000 ≤ l.shown ∧ l.shown ≤ 2000000 := fun x hx => hok.sh _ (List.mem_map.2 ⟨x, hx, rfl⟩)
  have hn : ts.length ≤ 4 := by have := hok.few; rwa [List.length_map] at this
  have h6 := hok.l6
  have had := hok.ad
  have hvr : truthR (ts.map Prod.fst) g total = truthOut (truthOf ((usedBay g.loads ts).map Prod.fst) g.loads (total - g.added)) := by
    unfold truthR; rw [if_pos hz, if_pos hto, usedBay_fst]
  have hul : (usedBay g.loads ts).length ≤ 4 := by have := usedBay_len g.loads ts ts.length; rw [List.take_length] at this; omega
  have hUm : ∀ x ∈ usedBay g.loads ts, x ∈ ts := fun x hx => (List.mem_filter.1 hx).1
  have htr := hb.tr
  obtain ⟨p, cap, hv⟩ := hb.row.len
  subst hv
  have hl1 := hg.l
  have hl2 := hg.r
  have hl3 := hg.s
  dsimp only at hl1 hl2 hl3
  obtain ⟨p1, cap1, rfl⟩ := hl1.len
  obtain ⟨p2, cap2, rfl⟩ := hl2.len
  obtain ⟨p3, cap3, rfl⟩ := hl3.len
  have HG := Lib.hid hg
  clear hg
  have HB := Lib.hid hb
  clear hb
  have HVR := Lib.hid hvr
  clear hvr
  have HZ := Lib.hid hz
  clear hz
  have HTO := Lib.hid hto
  clear hto
  have HRT := Lib.hid hrt
  clear hrt
  have HSH := Lib.hid hsh
  clear hsh
  have HTR := Lib.hid htr
  clear htr
  clear hl1 hl2 hl3 hz1 hz2 hok
  go_enter Tryz.func10, Tryz.ntmps10
  go_wp2_with (first
    | (go_at_call 22; refine (r04_Check_any ts _ g _ _ _ _ (HB.out.mono (by repeat' (first | with_reducible exact World.Exts.refl _ | with_reducible refine World.Exts.alloc ?_ _ | with_reducible refine World.Exts.drew ?_ | with_reducible refine World.Exts.drewN ?_ _ | with_reducible refine World.Exts.ext ?_ _ | with_reducible refine World.Exts.setCell ?_ ?_ _ | (simp; done) | exact World.size_ext_le _ _ | (simp; omega)))) (HG.out.l.mono (by repeat' (first | with_reducible exact World.Exts.refl _ | with_reducible refine World.Exts.alloc ?_ _ | with_reducible refine World.Exts.drew ?_ | with_reducible refine World.Exts.drewN ?_ _ | with_reducible refine World.Exts.ext ?_ _ | with_reducible refine World.Exts.setCell ?_ ?_ _ | (simp; done) | exact World.size_ext_le _ _ | (simp; omega)))) (HG.out.r.mono (by repeat' (first | with_reducible exact World.Exts.refl _ | with_reducible refine World.Exts.alloc ?_ _ | with_reducible refine World.Exts.drew ?_ | with_reducible refine World.Exts.drewN ?_ _ | with_reducible refine World.Exts.ext ?_ _ | with_reducible refine World.Exts.setCell ?_ ?_ _ | (simp; done) | exact World.size_ext_le _ _ | (simp; omega)))) (HG.out.s.mono (by repeat' (first | with_reducible exact World.Exts.refl _ | with_reducible refine World.Exts.alloc ?_ _ | with_reducible refine World.Exts.drew ?_ | with_reducible refine World.Exts.drewN ?_ _ | with_reducible refine World.Exts.ext ?_ _ | with_reducible refine World.Exts.setCell ?_ ?_ _ | (simp; done) | exact World.size_ext_le _ _ | (simp; omega))))).mono ?_; rintro e w' ⟨rfl, X2, rfl⟩; rw [HZ.out])
    | (go_at_call 37; refine (r04_within_any _ _ _ _).mono ?_; rintro e w' ⟨rfl, X3, rfl⟩; rw [HTO.out])
    | (go_at_call 38; refine (r04_used_any ts _ g _ _ _ _ (HB.out.mono (by repeat' (first | with_reducible exact World.Exts.refl _ | with_reducible refine World.Exts.alloc ?_ _ | with_reducible refine World.Exts.drew ?_ | with_reducible refine World.Exts.drewN ?_ _ | with_reducible refine World.Exts.ext ?_ _ | with_reducible refine World.Exts.setCell ?_ ?_ _ | (simp; done) | exact World.size_ext_le _ _ | (simp; omega)))) (HG.out.mono (by repeat' (first | with_reducible exact World.Exts.refl _ | with_reducible refine World.Exts.alloc ?_ _ | with_reducible refine World.Exts.drew ?_ | with_reducible refine World.Exts.drewN ?_ _ | with_reducible refine World.Exts.ext ?_ _ | with_reducible refine World.Exts.setCell ?_ ?_ _ | (simp; done) | exact World.size_ext_le _ _ | (simp; omega)))) (by omega)).mono ?_; rintro e w' ⟨vu, rfl, hbu, X4, rfl⟩; obtain ⟨qu, cu, rfl⟩ := hbu.row.len; have HBU := Lib.hid hbu; clear hbu))
  generalize usedBay g.loads ts = U at *
  obtain ⟨pu, bu, ou, cpu, e, hmu, hpu, hcu⟩ := HBU.out.row.ex
  cases e
  have HUM := Lib.hid hUm
  clear hUm
  have HPU := Lib.hid hpu
  clear hpu
  have HCU := Lib.hid hcu
  clear hcu
  clear HBU
  go_loopw [10, 11] (fun all i wr => ∃ (k : Nat), k ≤ U.length ∧ i = .int .i64 k ∧ Hid (AllAt U g.loads (World.ext _ X4).heap.size k wr all) ∧ (World.ext _ X4).Exts wr) (fun _ i _ => U.length - (intOf i).toNat)
  case atStart => exact ⟨0, Nat.zero_le _, rfl, Lib.hid ⟨[], by simp, World.ownsRow_nil _ _ _ _, fun x hx => by cases hx⟩, (by repeat' (first | with_reducible exact World.Exts.refl _ | with_reducible refine World.Exts.alloc ?_ _ | with_reducible refine World.Exts.drew ?_ | with_reducible refine World.Exts.drewN ?_ _ | with_reducible refine World.Exts.ext ?_ _ | with_reducible refine World.Exts.setCell ?_ ?_ _ | (simp; done) | exact World.size_ext_le _ _ | (simp; omega)))⟩
  case round =>
    obtain ⟨k, hk, rfl, HA, hE⟩ := hrel
    obtain ⟨X, rfl⟩ := hE
    by_cases hlt : k < U.length
    ·
      obtain ⟨⟨s, tv⟩, hx⟩ := some_of_lt hlt
      obtain ⟨rfl, hlu⟩ := HPU.out (by omega)
      have hcs := HCU.out k _ hx
      have c0 := hcs 0 _ rfl
      have c1 := hcs 1 _ rfl
      have c2 := hcs 2 _ rfl
      have c3 := hcs 3 _ rfl
      have c4 := hcs 4 _ rfl
      have c5 := hcs 5 _ rfl
      have c6 := hcs 6 _ rfl
      simp only [Nat.add_zero] at c0 c1 c2 c3 c4 c5 c6
      have hmem := HUM.out _ (List.mem_of_getElem? hx)
      have htx := HTR.out _ hmem
      dsimp only at htx
      obtain ⟨q1, cp1, rfl⟩ := htx.len
      have hrs := HRT.out _ hmem
      have hss := HSH.out _ hmem
      dsimp only at hrs hss
      have hs : (U.map Prod.fst)[k]? = some s := by rw [List.getElem?_map, hx]; rfl
      have HTX := Lib.hid htx
      clear htx
      have HRS := Lib.hid hrs
      clear hrs
      have HSS := Lib.hid hss
      clear hss
      have HS := Lib.hid hs
      clear hs
      clear hmem hcs hx
      go_wp2_with fail
      refine wp_region_calls 8 (fun i => i == 6 || i == 7) (fun c v W => PartOne s g.loads ((World.ext _ X4).ext X).heap.size c W v) (by kernel_rfl) (fun ν => by kernel_rfl) (by kernel_rfl) (by kernel_rfl) (by kernel_rfl) (by kernel_rfl) ?mono ?_
      rotate_left 1
      apply Exists.intro
      refine ⟨fun ν L hL => ?_, fun c oc hc hU ν W hE hΦ => ?_, fun ν W hE hΦ => ?_⟩
      · simp only [modU, cOp, List.mapIdx_cons, List.mapIdx_nil, Nat.zero_add, Nat.reduceAdd, Nat.reduceBEq, Bool.or_false, Bool.false_or, Bool.or_true, Bool.true_or, Bool.or_self, Bool.false_eq_true, if_false, if_true, List.take_succ_cons, List.take_zero]
        repeat (go_big_quiet_step (fail))
        exact wpQuiet_nil hL
      · simp at hU
        rcases hU with rfl | rfl
        · simp only [List.getElem?_cons_succ, List.getElem?_cons_zero, Option.some.injEq] at hc
          subst hc
          refine Oper.gives_fn rfl rfl rfl (enters_of Tryz.func39 (by kernel_rfl) rfl) ?_ rfl
          refine (r04_parts_own s _ g _ _ _ W (HTX.out.mono (World.Exts.trans (by repeat' (first | with_reducible exact World.Exts.refl _ | with_reducible refine World.Exts.alloc ?_ _ | with_reducible refine World.Exts.drew ?_ | with_reducible refine World.Exts.drewN ?_ _ | with_reducible refine World.Exts.ext ?_ _ | with_reducible refine World.Exts.setCell ?_ ?_ _ | (simp; done) | exact World.size_ext_le _ _ | (simp; omega))) hE)) HRS.out (HG.out.mono (World.Exts.trans (by repeat' (first | with_reducible exact World.Exts.refl _ | with_reducible refine World.Exts.alloc ?_ _ | with_reducible refine World.Exts.drew ?_ | with_reducible refine World.Exts.drewN ?_ _ | with_reducible refine World.Exts.ext ?_ _ | with_reducible refine World.Exts.setCell ?_ ?_ _ | (simp; done) | exact World.size_ext_le _ _ | (simp; omega))) hE)) h6 HSS.out).mono ?_
          rintro e W' ⟨v', rfl, h1, h2⟩
          exact ⟨v', rfl, h2, fun _ => ownsRow_down h1 (World.Exts.size hE), fun e => (by cases e)⟩
        · simp only [List.getElem?_cons_succ, List.getElem?_cons_zero, Option.some.injEq] at hc
          subst hc
          have h3 := (hΦ 6 rfl ⟨⟨6, .data⟩, by simp, rfl, rfl⟩).1 rfl
          obtain ⟨qq, cc, e⟩ := (row_parts h3).len
          refine gives_one 98 99 (.tmp 54) rfl Tryz.underlying98 (fun w => by kernel_rfl) (fun w => by kernel_rfl) e ?_
          refine ⟨(by repeat' (first | with_reducible exact World.Exts.refl _ | with_reducible refine World.Exts.alloc ?_ _ | with_reducible refine World.Exts.drew ?_ | with_reducible refine World.Exts.drewN ?_ _ | with_reducible refine World.Exts.ext ?_ _ | with_reducible refine World.Exts.setCell ?_ ?_ _ | (simp; done) | exact World.size_ext_le _ _ | (simp; omega))), fun e => (by cases e), fun _ => ⟨W.heap.size, .slice qq (parts s g.loads).length cc, rfl, by simp, ?_⟩⟩
          rw [← e]
          exact ownsRow_exts h3 (by repeat' (first | with_reducible exact World.Exts.refl _ | with_reducible refine World.Exts.alloc ?_ _ | with_reducible refine World.Exts.drew ?_ | with_reducible refine World.Exts.drewN ?_ _ | with_reducible refine World.Exts.ext ?_ _ | with_reducible refine World.Exts.setCell ?_ ?_ _ | (simp; done) | exact World.size_ext_le _ _ | (simp; omega)))
      · obtain ⟨b, x, hν, hbx, hpx⟩ := (hΦ 7 (by decide) rfl).2 rfl
        simp only [List.drop_succ_cons, List.drop_zero]
        generalize ν 7 = v7 at hν ⊢
        generalize ν 6 = v6
        subst hν
        obtain ⟨qx, cx, rfl⟩ := (row_parts hpx).len
        obtain ⟨l, hl1, hl2, hl3⟩ := HA.out
        have hll : l.length = k := by have h := congrArg List.length hl1; simp at h; omega
        refine wpList_appendG (.tmp 48) (.tmp 55) elem_partSl rfl rfl W (World.Exts.refl W) rfl (ownsRow_exts hl2 hE) [.slice qx (parts s g.loads).length cx] b rfl (fun j u hu => ?_) rfl (by simp [Value.oneCell']) (by omega) (by decide) (World.Exts.size (World.Exts.trans (by repeat' (first | with_reducible exact World.Exts.refl _ | with_reducible refine World.Exts.alloc ?_ _ | with_reducible refine World.Exts.drew ?_ | with_reducible refine World.Exts.drewN ?_ _ | with_reducible refine World.Exts.ext ?_ _ | with_reducible refine World.Exts.setCell ?_ ?_ _ | (simp; done) | exact World.size_ext_le _ _ | (simp; omega))) hE)) ?_
        · rcases j with _ | j
          · simp at hu; subst hu; exact hbx
          · simp at hu
        intro v' w' hown' happ
        have hE2 := happ.exts (World.ext _ X4) (World.Exts.trans (by repeat' (first | with_reducible exact World.Exts.refl _ | with_reducible refine World.Exts.alloc ?_ _ | with_reducible refine World.Exts.drew ?_ | with_reducible refine World.Exts.drewN ?_ _ | with_reducible refine World.Exts.ext ?_ _ | with_reducible refine World.Exts.setCell ?_ ?_ _ | (simp; done) | exact World.size_ext_le _ _ | (simp; omega))) hE) (Nat.le_refl _)
        have hnew : AllAt U g.loads (World.ext _ X4).heap.size (k + 1) w' v' := by
          refine ⟨l ++ [(parts s g.loads, .slice qx (parts s g.loads).length cx)], ?_, by rw [List.length_append]; simpa [pvCs] using hown', fun y hy => ?_⟩
          · rw [List.map_append, hl1, take_snoc HS.out, List.map_append]; rfl
          · rcases List.mem_append.1 hy with h | h
            · exact ownsRow_beside (ownsRow_exts (hl3 y h).1 hE) (hl3 y h).2 happ
            · rw [List.mem_singleton.1 h]
              refine (fun h => ⟨ownsRow_down h.1 (World.Exts.size (by repeat' (first | with_reducible exact World.Exts.refl _ | with_reducible refine World.Exts.alloc ?_ _ | with_reducible refine World.Exts.drew ?_ | with_reducible refine World.Exts.drewN ?_ _ | with_reducible refine World.Exts.ext ?_ _ | with_reducible refine World.Exts.setCell ?_ ?_ _ | (simp; done) | exact World.size_ext_le _ _ | (simp; omega)))), h.2⟩) (ownsRow_beside hpx (fun b hb e => ?_) happ)
              have h1 := (hpx.lt b hb).1
              have h2 := (hl2.lt b e).2
              omega
        have HNEW := Lib.hid hnew
        clear hnew
        have HE2 := Lib.hid hE2
        clear hE2
        clear hΦ happ hown' hl1 hl2 hl3 hpx hbx hE
        go_wp2_with fail
        go_roundw
        case rel => exact ⟨k + 1, by omega, by go_num, Lib.hid HNEW.out, HE2.out⟩
        case measure => simp [intOf]; omega
      case mono => exact fun c v W W' h hE => h.mono hE
    · have hkn : k = U.length := by omega
      have hA := HA.out
      rw [hkn] at hA
      obtain ⟨l, hl1, hl2, hl3⟩ := hA
      rw [List.take_of_length_le (by simp)] at hl1
      have hll : l.length = U.length := by have h := congrArg List.length hl1; simpa using h
      have hrow : IsRow (fun x : PV => [x.2]) 1 _ _ l := IsRow.of_owns hl2 (fun _ _ => rfl)
      obtain ⟨qa, ca, hva⟩ := hrow.len
      have hll1 : l.length ≤ U.length := by omega
      have hll2 : U.length ≤ l.length := by omega
      rw [hll] at hva
      subst hva
      clear hll
      have HROW := Lib.hid hrow
      clear hrow
      have HL3 := Lib.hid hl3
      clear hl3
      have HL1 := Lib.hid hl1
      clear hl1
      clear hl2 HA hkn
      have hmk := run_make_nils U.length (by omega)
      have hbk := BlkAt.new ((World.ext _ X4).ext X) (nils (U.length + 1)) 32 rfl
      have hnn : (nils (U.length + 1))[U.length]? = some (.slice none 0 0) := by simp [nils]
      have hnl : (nils (U.length + 1)).length = U.length + 1 := by simp [nils]
      have HBK := Lib.hid hbk
      clear hbk
      have hr0 := rest_start ((U.map Prod.fst).map fun s => parts s g.loads) ((World.ext _ X4).ext X) U.length (by simp)
      have HR0 := Lib.hid hr0
      clear hr0
      go_wp2_with fail
      go_loopw [13] (fun i wr => ∃ j : Nat, j ≤ U.length ∧ i = .int .i64 ((j : Int) - 1) ∧ Hid (RestAt ((U.map Prod.fst).map fun s => parts s g.loads) ((World.ext _ X4).ext X).heap.size j wr) ∧ ((World.ext _ X4).ext X).Exts wr) (fun i _ => (intOf i + 1).toNat)
      case atStart => exact ⟨U.length, Nat.le_refl _, rfl, Lib.hid HR0.out, (by repeat' (first | with_reducible exact World.Exts.refl _ | with_reducible refine World.Exts.alloc ?_ _ | with_reducible refine World.Exts.drew ?_ | with_reducible refine World.Exts.drewN ?_ _ | with_reducible refine World.Exts.ext ?_ _ | with_reducible refine World.Exts.setCell ?_ ?_ _ | (simp; done) | exact World.size_ext_le _ _ | (simp; omega)))⟩
      case round =>
        obtain ⟨j, hj, rfl, HRT2, hE⟩ := hrel
        obtain ⟨X5, rfl⟩ := hE
        rcases j with _ | j
        ·
          have e0 : ((0 : Nat) : Int) - 1 = -1 := rfl
          rw [e0]
          clear e0
          have hEV : w.Exts (World.ext _ X5) := (by repeat' (first | with_reducible exact World.Exts.refl _ | with_reducible refine World.Exts.alloc ?_ _ | with_reducible refine World.Exts.drew ?_ | with_reducible refine World.Exts.drewN ?_ _ | with_reducible refine World.Exts.ext ?_ _ | with_reducible refine World.Exts.setCell ?_ ?_ _ | (simp; done) | exact World.size_ext_le _ _ | (simp; omega)))
          have g0 : (World.ext _ X5).cell? ⟨w.heap.size + 1, 0, none⟩ = some (.slice p1 g.loads.length cap1) := by simp [go_sem]
          have g1 : (World.ext _ X5).cell? ⟨w.heap.size + 1, 1, none⟩ = some (.int .i64 g.added) := by simp [go_sem]
          have r0 : (World.ext _ X5).cell? ⟨w.heap.size + 1 + 1, 0, none⟩ = some (.slice none 0 0) := by simp [go_sem]
          have r1 : (World.ext _ X5).cell? ⟨w.heap.size + 1 + 1, 1, none⟩ = some (.slice none 0 0) := by simp [go_sem]
          have fr0 : (World.ext _ X5).frozen? ⟨w.heap.size + 1 + 1, 0, none⟩ = false := by simp [go_sem]
          have fr1 : (World.ext _ X5).frozen? ⟨w.heap.size + 1 + 1, 1, none⟩ = false := by simp [go_sem]
          have hE4V : (World.ext _ X4).Exts (World.ext _ X5) := (by repeat' (first | with_reducible exact World.Exts.refl _ | with_reducible refine World.Exts.alloc ?_ _ | with_reducible refine World.Exts.drew ?_ | with_reducible refine World.Exts.drewN ?_ _ | with_reducible refine World.Exts.ext ?_ _ | with_reducible refine World.Exts.setCell ?_ ?_ _ | (simp; done) | exact World.size_ext_le _ _ | (simp; omega)))
          have hcuV := fun k x hx j u hu => hE4V.cell (HCU.out k x hx j u hu)
          have hrowV := HROW.out.mono (w' := World.ext _ X5) ⟨_, rfl⟩
          obtain ⟨pl, bl, ol, capl, el, hml, hpl, hcl⟩ := HG.out.l.ex
          simp only [Value.slice.injEq] at el
          obtain ⟨rfl, -, rfl⟩ := el
          have hclV := fun k x hx j u hu => hEV.cell (hcl k x hx j u hu)
          have HCL := Lib.hid hclV
          clear hclV
          have HPL := Lib.hid hpl
          clear hpl
          clear hcl hml
          have hpartV := fun x hx => ((row_parts (HL3.out x hx).1).mono (w' := World.ext _ X5) ⟨_, rfl⟩)
          have htb : 0 ≤ total ∧ total ≤ 10000000 := by simpa [inb] using HTO.out
          have HCV := Lib.hid hcuV
          clear hcuV
          have HROWV := Lib.hid hrowV
          clear hrowV
          have HPV := Lib.hid hpartV
          clear hpartV
          clear HR0 HBK hmk hnn hnl HROW HL3 HCU hE4V
          generalize World.ext _ X5 = V at *
          generalize ((World.ext _ X4).ext X).heap.size = B0 at *
          have hD1 : Differ V.heap.size (V.heap.size + 1) := ⟨by omega⟩
          have hD2 : Differ (V.heap.size + 1) V.heap.size := ⟨by omega⟩
          have hLg := Lays.of_cell g0
          have hLr := Lays.of_cell r0
          have hrV : w.heap.size + 1 + 1 < V.heap.size := hLr.lt
          go_wp2_with fail
          go_loopw [16] (fun i wr => ∃ (k : Nat) (ch : List Part) (left : Span) (vt : Value), k ≤ U.length ∧ i = .int .i64 k ∧ Hid (greedy ⟨total - g.added, total - g.added⟩ ((U.map Prod.fst).map fun s => parts s g.loads) = grown ch (greedy left (((U.map Prod.fst).map fun s => parts s g.loads).drop k))) ∧ Hid (LeftOk k left) ∧ ch.length = k ∧ Hid (GrAt V.heap.size V wr ch left vt)) (fun i _ => U.length - (intOf i).toNat)
          case atStart => exact ⟨0, [], ⟨total - g.added, total - g.added⟩, .slice none 0 0, Nat.zero_le _, rfl, Lib.hid (grown_nil _).symm, Lib.hid ⟨Int.le_refl _, by dsimp only; omega, by dsimp only; omega⟩, rfl, Lib.hid ⟨(by repeat' (first | with_reducible exact World.Exts.refl _ | with_reducible refine World.Exts.alloc ?_ _ | with_reducible refine World.Exts.drew ?_ | with_reducible refine World.Exts.drewN ?_ _ | with_reducible refine World.Exts.ext ?_ _ | with_reducible refine World.Exts.setCell ?_ ?_ _ | (simp; done) | exact World.size_ext_le _ _ | (simp; omega))), LaysAs.exts (laysAs_size V _ rfl) (by repeat' (first | with_reducible exact World.Exts.refl _ | with_reducible refine World.Exts.alloc ?_ _ | with_reducible refine World.Exts.drew ?_ | with_reducible refine World.Exts.drewN ?_ _ | with_reducible refine World.Exts.ext ?_ _ | with_reducible refine World.Exts.setCell ?_ ?_ _ | (simp; done) | exact World.size_ext_le _ _ | (simp; omega))), laysAs_size _ _ (by simp), World.ownsRow_nil _ _ _ _⟩⟩
          case round =>
            obtain ⟨k2, ch, left, vt, hk2, rfl, HGR, HL, hlen, HG⟩ := hrel
            obtain ⟨X6, hX6⟩ := HG.out.ext
            subst hX6
            have hleft := HL.out
            unfold LeftOk at hleft
            obtain ⟨hl1, hl2, hl3⟩ := hleft
            have hlen1 : ch.length ≤ k2 := by omega
            have HLEN := Lib.hid hlen
            clear hlen
            by_cases hlt2 : k2 < U.length
            ·
              obtain ⟨⟨s, tv⟩, hx⟩ := some_of_lt hlt2
              have hs : (U.map Prod.fst)[k2]? = some s := by rw [List.getElem?_map, hx]; rfl
              obtain ⟨⟨ps, xv⟩, hxl⟩ := some_of_lt (xs := l) (k := k2) (by omega)
              have hps : ps = parts s g.loads := by
                have h1 : (l.map Prod.fst)[k2]? = some ps := by rw [List.getElem?_map, hxl]; rfl
                rw [HL1.out, List.getElem?_map, hs] at h1
                exact (Option.some.inj h1).symm
              have hPS : ((U.map Prod.fst).map fun s => parts s g.loads)[k2]? = some ps := by rw [List.getElem?_map, hs, hps]; rfl
              have hgood : Kr.Good g.loads.length ps := by rw [hps]; exact parts_good _ _
              have hpr := HPV.out _ (List.mem_of_getElem? hxl)
              dsimp only at hpr
              obtain ⟨pp, bp, op, cp, e, hmp, hqp, hcp⟩ := hpr.ex
              subst e
              obtain ⟨pr, br, or, cr, er, hmr, hqr, hcr⟩ := HROWV.out.ex
              simp only [Value.slice.injEq] at er
              obtain ⟨rfl, -, rfl⟩ := er
              obtain ⟨rfl, hlr⟩ := hqr (by omega)
              have a0 := hcr k2 _ hxl 0 _ rfl
              simp only [Nat.mul_one, Nat.add_zero] at a0
              obtain ⟨qn, cn, n0, hnr⟩ := HRT2.out.cell (m := k2 + 1) (Nat.zero_le _) (by simp; omega)
              have hlB := Lays.of_cell n0
              generalize hR : restOf (((U.map Prod.fst).map fun s => parts s g.loads).drop (k2 + 1)) = R at n0 hnr
              have hff : fitsB (((U.map Prod.fst).map fun s => parts s g.loads).drop (k2 + 1)) left = fun p => touches R (left.lo - p.sum.hi) (left.hi - p.sum.lo) := by funext p; unfold fitsB; rw [hR]
              have hhit : ∀ q, ps.find? (fun p => touches R (left.lo - p.sum.hi) (left.hi - p.sum.lo)) = some q → greedy ⟨total - g.added, total - g.added⟩ ((U.map Prod.fst).map fun s => parts s g.loads) = grown (ch ++ [q]) (greedy (leave left q) (((U.map Prod.fst).map fun s => parts s g.loads).drop (k2 + 1))) := fun q hq => by
                rw [HGR.out]; exact greedy_hit ch hPS (by rw [hff]; exact hq)
              have hmiss : ps.find? (fun p => touches R (left.lo - p.sum.hi) (left.hi - p.sum.lo)) = none → greedy ⟨total - g.added, total - g.added⟩ ((U.map Prod.fst).map fun s => parts s g.loads) = none := fun hq => by
                rw [HGR.out]; exact greedy_miss ch hPS (by rw [hff]; exact hq)
              have hstart : InAt V.heap.size V ps (fun p => touches R (left.lo - p.sum.hi) (left.hi - p.sum.lo)) ch left 0 (.bool false) (World.ext _ X6) := .inl ⟨rfl, fun q hq => by simp at hq, vt, HG.out⟩
              have HHIT := Lib.hid hhit
              clear hhit
              have HMISS := Lib.hid hmiss
              clear hmiss
              have HGOOD := Lib.hid hgood
              clear hgood
              have HNR := Lib.hid hnr
              clear hnr
              have HQP := Lib.hid hqp
              clear hqp
              have HCP := Lib.hid hcp
              clear hcp
              have HST := Lib.hid hstart
              clear hstart
              clear hps hPS hpr hqr hcr hxl hx hs hff hR HG HGR
              go_wp2_with fail
              go_loopw [17, 18] (fun fv kv wr => ∃ m : Nat, m ≤ ps.length ∧ kv = .int .i64 m ∧ Hid (InAt V.heap.size V ps (fun p => touches R (left.lo - p.sum.hi) (left.hi - p.sum.lo)) ch left m fv wr)) (fun _ kv _ => ps.length - (intOf kv).toNat)
              case atStart => exact ⟨0, Nat.zero_le _, rfl, Lib.hid HST.out⟩
              case round =>
                obtain ⟨m, hm, rfl, HI⟩ := hrel
                rcases HI.out with ⟨rfl, hno, vt2, hG⟩ | ⟨rfl, q, vt2, hqm, hfq, hG⟩
                · obtain ⟨X7, hX7⟩ := hG.ext
                  subst hX7
                  obtain ⟨d0, d1, d2, d3, z0, z1, z2, z3⟩ := hG.cells
                  have hLd0 := Lays.of_cell d0
                  have hLd2 := Lays.of_cell d2
                  have hbig := hG.big
                  by_cases hlt3 : m < ps.length
                  · obtain ⟨rfl, hlp⟩ := HQP.out (by omega)
                    obtain ⟨q, hq⟩ := some_of_lt hlt3
                    have hcs := HCP.out m q hq
                    have c0 := hcs 0 _ rfl
                    have c1 := hcs 1 _ rfl
                    have c2 := hcs 2 _ rfl
                    have c3 := hcs 3 _ rfl
                    simp only [Nat.add_zero] at c0 c1 c2 c3
                    have hqg := HGOOD.out q (List.mem_of_getElem? hq)
                    cases hfb : touches R (left.lo - q.sum.hi) (left.hi - q.sum.lo)
                    ·
                      have hno2 : ∀ y ∈ ps.take (m + 1), touches R (left.lo - y.sum.hi) (left.hi - y.sum.lo) = false := fun y hy => by
                        rw [take_snoc hq] at hy
                        rcases List.mem_append.1 hy with h | h
                        · exact hno y h
                        · rw [List.mem_singleton.1 h]; exact hfb
                      have HNO2 := Lib.hid hno2
                      clear hno2
                      have HFB := Lib.hid hfb
                      clear hfb
                      have HG7 := Lib.hid hG
                      clear hG
                      clear hno hq hcs
                      go_wp2_with fail
                      refine wp_region_ext (by kernel_rfl) (by kernel_rfl) ?_
                      repeat (go_big_quiet_step ((go_at_call 42; exact Calls.in_ext_eq (r04_touches_any R _ _ _ _ (HNR.out.mono (by repeat' (first | with_reducible exact World.Exts.refl _ | with_reducible refine World.Exts.alloc ?_ _ | with_reducible refine World.Exts.drew ?_ | with_reducible refine World.Exts.drewN ?_ _ | with_reducible refine World.Exts.ext ?_ _ | with_reducible refine World.Exts.setCell ?_ ?_ _ | (simp; done) | exact World.size_ext_le _ _ | (simp; omega))))) (congrArg Value.bool HFB.out))))
                      refine wpQuiet_nil ?_
                      rintro _ ⟨X, rfl⟩
                      go_wp2_with fail
                      go_roundw
                      case rel => exact ⟨m + 1, by omega, by go_num, Lib.hid (.inl ⟨rfl, HNO2.out, vt2, HG7.out.exts (by repeat' (first | with_reducible exact World.Exts.refl _ | with_reducible refine World.Exts.alloc ?_ _ | with_reducible refine World.Exts.drew ?_ | with_reducible refine World.Exts.drewN ?_ _ | with_reducible refine World.Exts.ext ?_ _ | with_reducible refine World.Exts.setCell ?_ ?_ _ | (simp; done) | exact World.size_ext_le _ _ | (simp; omega)))⟩)⟩
                      case measure => simp [intOf] <;> omega
                    · have hfq := find_hit (p := fun p => touches R (left.lo - p.sum.hi) (left.hi - p.sum.lo)) hq hfb hno
                      have hqm := List.mem_of_getElem? hq
                      have HFQ := Lib.hid hfq
                      clear hfq
                      have HQM := Lib.hid hqm
                      clear hqm
                      have HFB := Lib.hid hfb
                      clear hfb
                      obtain ⟨pv, cv, rfl⟩ := owns_len hG.row
                      have HG7 := Lib.hid hG
                      clear hG
                      clear hno hq hcs
                      go_wp2_with fail
                      refine wp_region_ext (by kernel_rfl) (by kernel_rfl) ?_
                      repeat (go_big_quiet_step ((go_at_call 42; exact Calls.in_ext_eq (r04_touches_any R _ _ _ _ (HNR.out.mono (by repeat' (first | with_reducible exact World.Exts.refl _ | with_reducible refine World.Exts.alloc ?_ _ | with_reducible refine World.Exts.drew ?_ | with_reducible refine World.Exts.drewN ?_ _ | with_reducible refine World.Exts.ext ?_ _ | with_reducible refine World.Exts.setCell ?_ ?_ _ | (simp; done) | exact World.size_ext_le _ _ | (simp; omega))))) (congrArg Value.bool HFB.out))))
                      refine wpQuiet_nil ?_
                      rintro _ ⟨X, rfl⟩
                      have hG8 := GrAt.left (left' := leave left q) (Nat.le_refl _) (HG7.out.exts (W' := World.ext _ X) (by repeat' (first | with_reducible exact World.Exts.refl _ | with_reducible refine World.Exts.alloc ?_ _ | with_reducible refine World.Exts.drew ?_ | with_reducible refine World.Exts.drewN ?_ _ | with_reducible refine World.Exts.ext ?_ _ | with_reducible refine World.Exts.setCell ?_ ?_ _ | (simp; done) | exact World.size_ext_le _ _ | (simp; omega))))
                      have hb8 := hG8.big
                      have HG8 := Lib.hid hG8
                      clear hG8
                      go_wp2_with (at_builtin; refine wpList_append1W (.tmp 155) (.tmp 158) elem_pair rfl rfl rfl HG8.out.row [.int .i64 q.gain, .int .i64 q.off] _ (by simp) rfl rfl ?h1 ?h2 ?h4 ?h3 ?_)
                      case h1 => exact one_pair _ _
                      case h2 => omega
                      case h4 => decide
                      case h3 => exact hb8
                      intro v' w' hown' happ
                      have hG9 := HG8.out.push (Nat.le_refl _) hown' happ
                      obtain ⟨t0, t1, t2⟩ := HG8.out.after happ
                      have hLt := Lays.of_cell t0
                      obtain ⟨pv2, cv2, e9⟩ := owns_len hG9.row
                      rw [List.length_append, List.length_singleton] at e9
                      subst e9
                      have HG9 := Lib.hid hG9
                      clear hG9
                      clear hown' happ
                      go_wp2_with fail
                      go_roundw
                      case rel => exact ⟨m + 1, by omega, by go_num, Lib.hid (.inr ⟨rfl, q, _, HQM.out, HFQ.out, HG9.out⟩)⟩
                      case measure => simp [intOf] <;> omega
                  ·
                    have hmn : m = ps.length := by omega
                    rw [hmn, List.take_length] at hno
                    have hfin := HVR.out
                    unfold truthOf at hfin
                    rw [HMISS.out (find_miss hno)] at hfin
                    have HFIN := Lib.hid hfin
                    clear hfin
                    clear hno hmn hG
                    go_wp2_with fail
                    refine bodyPost_ret (v := .tuple #[.agg #[.slice none 0 0, .slice none 0 0], .int .i64 6]) (by simp [results, Tryz.results10, go_sem, r0, r1]) rfl ?_
                    exact ⟨_, _, [], [], _, rfl, by rw [HFIN.out]; rfl, IsRow.nil _, IsRow.nil _, (by repeat' (first | exact hEV | with_reducible exact World.Exts.refl _ | with_reducible refine World.Exts.alloc ?_ _ | with_reducible refine World.Exts.drew ?_ | with_reducible refine World.Exts.drewN ?_ _ | with_reducible refine World.Exts.ext ?_ _ | with_reducible refine World.Exts.setCell ?_ ?_ _ | (simp; done) | exact World.size_ext_le _ _ | (simp; omega)))⟩
                ·
                  obtain ⟨X7, hX7⟩ := hG.ext
                  subst hX7
                  have hgr := HHIT.out q hfq
                  have hok := leftOk_step HGOOD.out h6 hqm HL.out
                  have hlen2 : (ch ++ [q]).length = k2 + 1 := by rw [List.length_append, HLEN.out]; rfl
                  have HGR2 := Lib.hid hgr
                  clear hgr
                  have HOK2 := Lib.hid hok
                  clear hok
                  have HG7 := Lib.hid hG
                  clear hG
                  have HLEN2 := Lib.hid hlen2
                  clear hlen2
                  clear hfq hqm
                  by_cases hlt3 : m < ps.length
                  all_goals
                    go_wp2_with fail
                    go_roundw
                    case rel => exact ⟨k2 + 1, _, _, _, by omega, by go_num, Lib.hid HGR2.out, Lib.hid HOK2.out, HLEN2.out, Lib.hid HG7.out⟩
                    case measure => simp [intOf] <;> omega
            ·
              have hkn : k2 = U.length := by omega
              have hgr := HGR.out
              rw [hkn, greedy_end ch (by simp)] at hgr
              have hcho := (greedy_spec (goodAll (U.map Prod.fst) g.loads) hgr).1
              have hfin := HVR.out
              unfold truthOf at hfin
              rw [hgr] at hfin
              dsimp only at hfin
              clear hgr HGR hkn
              cases hin : inb left.lo left.hi 0
              · rw [if_neg (fun h => by simp [inb] at hin; omega)] at hfin
                have HFIN := Lib.hid hfin
                clear hfin
                have HIN := Lib.hid hin
                clear hin
                clear hcho
                obtain ⟨d0, d1, d2, d3, z0, z1, z2, z3⟩ := HG.out.cells
                have hLd0 := Lays.of_cell d0
                go_wp2_with (go_at_call 37; refine (r04_within_any _ _ _ _).mono ?_; rintro e w' ⟨rfl, X3, rfl⟩; rw [HIN.out])
                refine bodyPost_ret (v := .tuple #[.agg #[.slice none 0 0, .slice none 0 0], .int .i64 6]) (by simp [results, Tryz.results10, go_sem, r0, r1]) rfl ?_
                exact ⟨_, _, [], [], _, rfl, by rw [HFIN.out]; rfl, IsRow.nil _, IsRow.nil _, (by repeat' (first | exact hEV | with_reducible exact World.Exts.refl _ | with_reducible refine World.Exts.alloc ?_ _ | with_reducible refine World.Exts.drew ?_ | with_reducible refine World.Exts.drewN ?_ _ | with_reducible refine World.Exts.ext ?_ _ | with_reducible refine World.Exts.setCell ?_ ?_ _ | (simp; done) | exact World.size_ext_le _ _ | (simp; omega)))⟩
              · rw [if_pos (by simp [inb] at hin; omega)] at hfin
                have HFIN := Lib.hid hfin
                clear hfin
                have HIN := Lib.hid hin
                clear hin
                have HCHO := Lib.hid hcho
                clear hcho
                obtain ⟨d0, d1, d2, d3, z0, z1, z2, z3⟩ := HG.out.cells
                have hLd0 := Lays.of_cell d0
                go_wp2_with (go_at_call 37; refine (r04_within_any _ _ _ _).mono ?_; rintro e w' ⟨rfl, X3, rfl⟩; rw [HIN.out])
                have hG2 := HG.out.exts (W' := World.ext _ X3) (by repeat' (first | with_reducible exact World.Exts.refl _ | with_reducible refine World.Exts.alloc ?_ _ | with_reducible refine World.Exts.drew ?_ | with_reducible refine World.Exts.drewN ?_ _ | with_reducible refine World.Exts.ext ?_ _ | with_reducible refine World.Exts.setCell ?_ ?_ _ | (simp; done) | exact World.size_ext_le _ _ | (simp; omega)))
                have hVV := hG2.ext
                obtain ⟨pt, ct, rfl⟩ := owns_len hG2.row
                have hrt2 := row_pairs hG2.row
                obtain ⟨-, -, o20, o21, -, -, y20, y21⟩ := hG2.cells
                have hLo2 := Lays.of_cell o20
                have hEV2 := hEV.trans hVV
                have g02 := hVV.cell g0
                have g12 := hVV.cell g1
                have r02 := hVV.cell r0
                have r12 := hVV.cell r1
                have f02 := (hVV.below.frozen (p := ⟨w.heap.size + 1 + 1, 0, none⟩) hLr.lt).trans fr0
                have f12 := (hVV.below.frozen (p := ⟨w.heap.size + 1 + 1, 1, none⟩) hLr.lt).trans fr1
                have hLg2 := Lays.of_cell g02
                have hLr2 := Lays.of_cell r02
                have hcu2 := fun k x hx j u hu => hVV.cell (HCV.out k x hx j u hu)
                have hcl2 := fun k x hx j u hu => hVV.cell (HCL.out k x hx j u hu)
                have HG2 := Lib.hid hG2
                clear hG2
                have HRT3 := Lib.hid hrt2
                clear hrt2
                have HCU2 := Lib.hid hcu2
                clear hcu2
                have HCL2 := Lib.hid hcl2
                clear hcl2
                clear d0 d1 d2 d3 z0 z1 z2 z3 hLd0 hLg hLr g0 g1 r0 r1 fr0 fr1 HCV HCL HROWV HPV HRT2 HG HL hD1 hD2
                generalize World.ext _ X3 = V2 at *
                have hlen4 : ch.length ≤ 4 := by omega
                go_loopw [20, 21, 22] (fun vw mo i wr => ∃ (k : Nat) (ls : List Span), k ≤ g.loads.length ∧ i = .int .i64 k ∧ mo = .int .i64 (sumHi ls) ∧ Hid (ls = gathL ((U.map Prod.fst).zip ch) (g.loads.take k)) ∧ Hid (SpOk (4 * k) ls) ∧ Hid (wr.ownsRow V2.heap.size 48 2 vw ls.length (spanCs ls)) ∧ V2.Exts wr) (fun _ _ i _ => g.loads.length - (intOf i).toNat)
                case atStart => exact ⟨0, [], Nat.zero_le _, rfl, rfl, Lib.hid rfl, Lib.hid ⟨Nat.le_refl _, fun t ht => by cases ht⟩, Lib.hid (World.ownsRow_nil _ _ _ _), World.Exts.refl _⟩
                case round =>
                  obtain ⟨k3, ls, hk3, rfl, rfl, HLS, HSP, HO, hE⟩ := hrel
                  have hsb := sumHi_bd HSP.out
                  have hsl := HSP.out.1
                  obtain ⟨Y, rfl⟩ := hE
                  by_cases hlt3 : k3 < g.loads.length
                  ·
                    obtain ⟨rfl, hlp⟩ := HPL.out (by omega)
                    obtain ⟨ld, hld⟩ := some_of_lt hlt3
                    have hcs := HCL2.out k3 ld hld
                    have a0 := hcs 0 _ rfl
                    have a1 := hcs 1 _ rfl
                    simp only [Nat.add_zero] at a0 a1
                    have hLa := Lays.of_cell a0
                    have hldm := List.mem_of_getElem? hld
                    have hsn := gathL_snoc ((U.map Prod.fst).zip ch) hld
                    rw [← HLS.out] at hsn
                    have HSN := Lib.hid hsn
                    clear hsn
                    have HLDM := Lib.hid hldm
                    clear hldm
                    clear hcs hld HLS
                    have hd3 : decide ((k3 : Int) < (g.loads.length : Int)) = true := by simp; omega
                    go_wp2_with fail
                    try simp only [hd3]
                    go_loopw [20, 21, 23] (fun vw mo i wr => ∃ (m : Nat) (l2 : List Span), m ≤ U.length ∧ i = .int .i64 m ∧ mo = .int .i64 (sumHi l2) ∧ Hid (l2 = ls ++ gath (((U.map Prod.fst).zip ch).take m) ld) ∧ Hid (SpOk (4 * k3 + m) l2) ∧ Hid (wr.ownsRow V2.heap.size 48 2 vw l2.length (spanCs l2)) ∧ V2.Exts wr) (fun _ _ i _ => U.length - (intOf i).toNat)
                    case atStart => exact ⟨0, ls, Nat.zero_le _, rfl, rfl, Lib.hid (by simp [gath]), Lib.hid (spOk_le HSP.out (by omega)), Lib.hid HO.out, (by repeat' (first | with_reducible exact World.Exts.refl _ | with_reducible refine World.Exts.alloc ?_ _ | with_reducible refine World.Exts.drew ?_ | with_reducible refine World.Exts.drewN ?_ _ | with_reducible refine World.Exts.ext ?_ _ | with_reducible refine World.Exts.setCell ?_ ?_ _ | (simp; done) | exact World.size_ext_le _ _ | (simp; omega)))⟩
                    case round =>
                      obtain ⟨m, l2, hm, rfl, rfl, HL2, HSP2, HO2, hE2⟩ := hrel
                      have hsb2 := sumHi_bd HSP2.out
                      have hsl2 := HSP2.out.1
                      obtain ⟨Y2, rfl⟩ := hE2
                      by_cases hlt4 : m < U.length
                      · obtain ⟨⟨s, tv⟩, hx⟩ := some_of_lt hlt4
                        obtain ⟨rfl, hlu⟩ := HPU.out (by omega)
                        have hcs := HCU2.out m _ hx
                        have hmem := HUM.out _ (List.mem_of_getElem? hx)
                        have htx := HTR.out _ hmem
                        have hrs := HRT.out _ hmem
                        have hss := HSH.out _ hmem
                        dsimp only at htx hrs hss
                        obtain ⟨q1, cp1, rfl⟩ := htx.len
                        have c0 := hcs 0 _ rfl
                        have c1 := hcs 1 _ rfl
                        have c2 := hcs 2 _ rfl
                        have c3 := hcs 3 _ rfl
                        have c4 := hcs 4 _ rfl
                        have c5 := hcs 5 _ rfl
                        have c6 := hcs 6 _ rfl
                        simp only [Nat.add_zero] at c0 c1 c2 c3 c4 c5 c6
                        have hLc := Lays.of_cell c0
                        obtain ⟨q, hq⟩ := some_of_lt (xs := ch) (k := m) (by have := HLEN.out; omega)
                        have hs : (U.map Prod.fst)[m]? = some s := by rw [List.getElem?_map, hx]; rfl
                        obtain ⟨ptt, bt, ot, ctt, et, hmt, hpt, hct⟩ := HRT3.out.ex
                        simp only [Value.slice.injEq] at et
                        obtain ⟨rfl, -, rfl⟩ := et
                        obtain ⟨rfl, hlt⟩ := hpt (by have := HLEN.out; omega)
                        have hcq := hct m q hq
                        have b0 := hcq 0 _ rfl
                        have b1 := hcq 1 _ rfl
                        simp only [Nat.add_zero] at b0 b1
                        have hLb := Lays.of_cell b0
                        have hlc : m < ch.length := lt_of_some hq
                        have hqp := parts_bound hrs (chosen_at HCHO.out hs hq)
                        have hst := (right_bounds hrs).2.1
                        have hsn2 := gath_snoc (zip_at hs hq) ld
                        dsimp only at hsn2
                        cases he : s.id == ld.scale
                        · rw [if_neg (by simpa using he), List.append_nil] at hsn2
                          have hnx : ls ++ gath (((U.map Prod.fst).zip ch).take (m + 1)) ld = l2 := by rw [hsn2, HL2.out]
                          have HNX := Lib.hid hnx
                          clear hnx
                          clear hcs hcq hct hpt hq hs hx hmem hss hrs htx hsn2 hqp hst
                          go_wp2_with fail
                          refine wp_region_ext (by kernel_rfl) (by kernel_rfl) ?_
                          repeat (go_big_quiet_step (fail))
                          refine wpQuiet_nil ?_
                          rintro _ ⟨X, rfl⟩
                          go_wp2_with fail
                          go_roundw
                          case rel => exact ⟨m + 1, l2, by omega, by go_num, rfl, Lib.hid HNX.out.symm, Lib.hid (spOk_le HSP2.out (by omega)), Lib.hid (ownsRow_exts HO2.out (by repeat' (first | with_reducible exact World.Exts.refl _ | with_reducible refine World.Exts.alloc ?_ _ | with_reducible refine World.Exts.drew ?_ | with_reducible refine World.Exts.drewN ?_ _ | with_reducible refine World.Exts.ext ?_ _ | with_reducible refine World.Exts.setCell ?_ ?_ _ | (simp; done) | exact World.size_ext_le _ _ | (simp; omega)))), (by repeat' (first | with_reducible exact World.Exts.refl _ | with_reducible refine World.Exts.alloc ?_ _ | with_reducible refine World.Exts.drew ?_ | with_reducible refine World.Exts.drewN ?_ _ | with_reducible refine World.Exts.ext ?_ _ | with_reducible refine World.Exts.setCell ?_ ?_ _ | (simp; done) | exact World.size_ext_le _ _ | (simp; omega)))⟩
                          case measure => simp [intOf] <;> omega
                        · rw [if_pos (by simpa using he)] at hsn2
                          have hsh2 := hss ld HLDM.out (by simpa using (beq_iff_eq.1 he).symm)
                          have hfl := chosen_span HCHO.out hs hq HLDM.out (beq_iff_eq.1 he).symm
                          have hwe := (wtR_eq (step := s.step) (gain := q.gain) (off := q.off) (n := ld.shown) hqp.1).2 hfl
                          have hwb := wt_bound s.step q.gain q.off ld.shown
                          have hnx : ls ++ gath (((U.map Prod.fst).zip ch).take (m + 1)) ld = l2 ++ [wt s.step q.gain q.off ld.shown] := by rw [hsn2, HL2.out, List.append_assoc]
                          generalize wt s.step q.gain q.off ld.shown = x at hwe hwb hnx hfl
                          have hsp3 := spOk_snoc HSP2.out (t := x) ⟨hwb.1, hfl, hwb.2⟩
                          have HNX := Lib.hid hnx
                          clear hnx
                          have HWR := Lib.hid hwe
                          clear hwe
                          have HSP3 := Lib.hid hsp3
                          clear hsp3
                          clear hcs hcq hct hpt hq hs hx hmem hss hrs htx hsn2
                          go_wp2_with fail
                          refine wp_region_ext (by kernel_rfl) (by kernel_rfl) ?_
                          repeat (go_big_quiet_step (fail))
                          refine wpQuiet_nil ?_
                          rintro _ ⟨X, rfl⟩
                          go_wp2_with fail
                          refine wp_region_alloc 24 23 _ (.cells #[.int .i64 0, .int .i64 0] 48) (by kernel_rfl) (fun pp => by kernel_rfl) (by kernel_rfl) rfl rfl rfl (by decide) (fun a W => by kernel_rfl) ?_
                          apply Exists.intro
                          refine ⟨fun pp hpp T hT L hL => ?_, fun pp => ?_, fun pp Wp hpp hEp hop => ?_⟩
                          · haveI := hT.2
                            simp only [mvOp, List.set_cons_succ, List.set_cons_zero, List.take_succ_cons, List.take_zero]
                            repeat (go_big_quiet_step ((go_at_call 43; exact Calls.in_extT_eq hT (r04_Weights_any s _ _ _ _ _ hst hqp.1 hqp.2 hsh2) (by rw [HWR.out]))))
                            exact wpQuiet_nil hL
                          · rfl
                          simp only [List.drop_succ_cons, List.drop_zero]
                          obtain ⟨X5, rfl⟩ := hEp
                          have p0 := cells_block (cs := [.int .i64 0, .int .i64 0]) hop 0 _ rfl
                          have p1 := cells_block (cs := [.int .i64 0, .int .i64 0]) hop 1 _ rfl
                          have z0 := block_frozen (i := 0) hop
                          have z1 := block_frozen (i := 1) hop
                          haveI := Lays.of_cell p0
                          have hset : LaysAs (((World.ext _ X5).setCell ⟨pp, 0, none⟩ (.int .i64 x.lo)).setCell ⟨pp, 1, none⟩ (.int .i64 x.hi)) pp (.cells [.int .i64 x.lo, .int .i64 x.hi].toArray 48 (0, 0)) := LaysAs.set (LaysAs.set (cs := [.int .i64 0, .int .i64 0]) hop _) _
                          have hpp2 : (V2.ext Y2).heap.size ≤ pp := Nat.le_trans (World.size_ext_le _ _) hpp
                          have hpp3 : V2.heap.size ≤ pp := Nat.le_trans (World.size_ext_le _ _) hpp2
                          have HSET := Lib.hid hset
                          clear hset
                          clear hop hpp
                          go_wp2_with (at_builtin; refine wpList_append1W (.tmp 219) (.tmp 221) elem_Span rfl rfl rfl (ownsRow_exts HO2.out (by repeat' (first | with_reducible exact World.Exts.refl _ | with_reducible refine World.Exts.alloc ?_ _ | with_reducible refine World.Exts.drew ?_ | with_reducible refine World.Exts.drewN ?_ _ | with_reducible refine World.Exts.ext ?_ _ | with_reducible refine World.Exts.setCell ?_ ?_ _ | (simp; done) | exact World.size_ext_le _ _ | (simp; omega)))) [.int .i64 x.lo, .int .i64 x.hi] _ (by simp) rfl rfl ?h1 ?h2 ?h4 ?h3 ?_)
                          case h1 => exact one_Span _
                          case h2 => omega
                          case h4 => decide
                          case h3 => exact World.Exts.size (by repeat' (first | with_reducible exact World.Exts.refl _ | with_reducible refine World.Exts.alloc ?_ _ | with_reducible refine World.Exts.drew ?_ | with_reducible refine World.Exts.drewN ?_ _ | with_reducible refine World.Exts.ext ?_ _ | with_reducible refine World.Exts.setCell ?_ ?_ _ | (simp; done) | exact World.size_ext_le _ _ | (simp; omega)))
                          intro v' w' hown' happ
                          have hP := (LaysAs.appended HSET.out happ (fun e => by have := (HO2.out.lt pp e).2; omega)).1
                          have e1 := LaysAs.cell hP 1 _ rfl
                          have hLe := Lays.of_cell e1
                          have hE3 := happ.exts V2 (by repeat' (first | with_reducible exact World.Exts.refl _ | with_reducible refine World.Exts.alloc ?_ _ | with_reducible refine World.Exts.drew ?_ | with_reducible refine World.Exts.drewN ?_ _ | with_reducible refine World.Exts.ext ?_ _ | with_reducible refine World.Exts.setCell ?_ ?_ _ | (simp; done) | exact World.size_ext_le _ _ | (simp; omega))) (Nat.le_refl _)
                          have HO3 := Lib.hid hown'
                          clear hown'
                          have HE3 := Lib.hid hE3
                          clear hE3
                          clear happ hP
                          go_wp2_with fail
                          go_roundw
                          case rel => exact ⟨m + 1, l2 ++ [x], by omega, by go_num, by rw [sumHi_snoc], Lib.hid HNX.out.symm, Lib.hid (spOk_le HSP3.out (by omega)), Lib.hid (by rw [spanCs_snoc, List.length_append]; exact HO3.out), HE3.out⟩
                          case measure => simp [intOf] <;> omega
                      ·
                        have hmn : m = U.length := by omega
                        have hl2 := HL2.out
                        rw [hmn, List.take_of_length_le (by simp; omega)] at hl2
                        have hnx : gathL ((U.map Prod.fst).zip ch) (g.loads.take (k3 + 1)) = l2 := by rw [HSN.out, hl2]
                        have HNX := Lib.hid hnx
                        clear hnx
                        clear hl2 hmn
                        go_wp2_with fail
                        go_roundw
                        case rel => exact ⟨k3 + 1, l2, by omega, by go_num, rfl, Lib.hid HNX.out.symm, Lib.hid (spOk_le HSP2.out (by omega)), Lib.hid (ownsRow_exts HO2.out (by repeat' (first | with_reducible exact World.Exts.refl _ | with_reducible refine World.Exts.alloc ?_ _ | with_reducible refine World.Exts.drew ?_ | with_reducible refine World.Exts.drewN ?_ _ | with_reducible refine World.Exts.ext ?_ _ | with_reducible refine World.Exts.setCell ?_ ?_ _ | (simp; done) | exact World.size_ext_le _ _ | (simp; omega)))), (by repeat' (first | with_reducible exact World.Exts.refl _ | with_reducible refine World.Exts.alloc ?_ _ | with_reducible refine World.Exts.drew ?_ | with_reducible refine World.Exts.drewN ?_ _ | with_reducible refine World.Exts.ext ?_ _ | with_reducible refine World.Exts.setCell ?_ ?_ _ | (simp; done) | exact World.size_ext_le _ _ | (simp; omega)))⟩
                        case measure => simp [intOf] <;> omega
                  · 
                    have hkn : k3 = g.loads.length := by omega
                    have hls := HLS.out
                    rw [hkn, List.take_length] at hls
                    have hfin := HFIN.out
                    rw [← hls] at hfin
                    have hfin2 : truthR (ts.map Prod.fst) g total = ((ch, layF (total - g.added) ls), 0) := hfin
                    have hrl := row_spans HO.out
                    obtain ⟨pw, bw, ow, cw, rfl, hmw, hpw, hcw⟩ := hrl.ex
                    have hlo3 := HG2.out.o.exts (w' := V2.ext Y) (by repeat' (first | with_reducible exact World.Exts.refl _ | with_reducible refine World.Exts.alloc ?_ _ | with_reducible refine World.Exts.drew ?_ | with_reducible refine World.Exts.drewN ?_ _ | with_reducible refine World.Exts.ext ?_ _ | with_reducible refine World.Exts.setCell ?_ ?_ _ | (simp; done) | exact World.size_ext_le _ _ | (simp; omega)))
                    have hrt4 := HRT3.out.mono (w' := V2.ext Y) (by repeat' (first | with_reducible exact World.Exts.refl _ | with_reducible refine World.Exts.alloc ?_ _ | with_reducible refine World.Exts.drew ?_ | with_reducible refine World.Exts.drewN ?_ _ | with_reducible refine World.Exts.ext ?_ _ | with_reducible refine World.Exts.setCell ?_ ?_ _ | (simp; done) | exact World.size_ext_le _ _ | (simp; omega)))
                    have hEV3 : w.Exts (V2.ext Y) := hEV2.trans (by repeat' (first | with_reducible exact World.Exts.refl _ | with_reducible refine World.Exts.alloc ?_ _ | with_reducible refine World.Exts.drew ?_ | with_reducible refine World.Exts.drewN ?_ _ | with_reducible refine World.Exts.ext ?_ _ | with_reducible refine World.Exts.setCell ?_ ?_ _ | (simp; done) | exact World.size_ext_le _ _ | (simp; omega)))
                    have hVV3 : V.Exts (V2.ext Y) := hVV.trans (by repeat' (first | with_reducible exact World.Exts.refl _ | with_reducible refine World.Exts.alloc ?_ _ | with_reducible refine World.Exts.drew ?_ | with_reducible refine World.Exts.drewN ?_ _ | with_reducible refine World.Exts.ext ?_ _ | with_reducible refine World.Exts.setCell ?_ ?_ _ | (simp; done) | exact World.size_ext_le _ _ | (simp; omega)))
                    have hYY : V2.Exts (V2.ext Y) := ⟨Y, rfl⟩
                    have g03 := hYY.cell g02
                    have g13 := hYY.cell g12
                    have r03 := hYY.cell r02
                    have r13 := hYY.cell r12
                    have f03 := (hYY.below.frozen (p := ⟨w.heap.size + 1 + 1, 0, none⟩) hLr2.lt).trans f02
                    have f13 := (hYY.below.frozen (p := ⟨w.heap.size + 1 + 1, 1, none⟩) hLr2.lt).trans f12
                    have hBV2 := HG2.out.big
                    have hBV3 : V.heap.size + 1 < (V2.ext Y).heap.size := Nat.lt_of_lt_of_le hBV2 hYY.size
                    have hrw := RowOff.own (G := [V.heap.size + 1]) (xs := ls) HO.out (fun _ _ => rfl) (fun g hg => by rw [List.mem_singleton.1 hg]; omega)
                    have hrtO : ∀ b, b < V.heap.size + 2 → (Value.slice pt ch.length ct).ownBlock ≠ some b := fun b hb => owns_off HG2.out.row hb
                    have hsl24 : ls.length ≤ 24 := by omega
                    have HFIN2 := Lib.hid hfin2
                    clear hfin2
                    have HPW := Lib.hid hpw
                    clear hpw
                    have HCW := Lib.hid hcw
                    clear hcw
                    have HLO3 := Lib.hid hlo3
                    clear hlo3
                    have HRT4 := Lib.hid hrt4
                    clear hrt4
                    have HRW := Lib.hid hrw
                    clear hrw
                    have HRTO := Lib.hid hrtO
                    clear hrtO
                    clear hkn hls hfin HFIN HLS HO HRT3 HG2 HCU2 HCL2 HPL HPU o20 o21 y20 y21 hLo2
                    generalize V2.ext Y = V3 at *
                    have hL3g := Lays.of_cell g13
                    go_wp2_with fail
                    go_loopw [21, 25, 26] (fun mo ne i wr => ∃ (k : Nat) (ws : List Int) (vw : Value) (need : Int), k ≤ ls.length ∧ i = .int .i64 k ∧ mo = .int .i64 (sumHi (ls.drop k)) ∧ ne = .int .i64 need ∧ Hid (layF (total - g.added) ls = ws ++ layF need (ls.drop k)) ∧ (-(1000000 + 1000000 * (k : Int)) ≤ need ∧ need ≤ 10000000) ∧ ws.length ≤ k ∧ Hid (WAt V.heap.size V V3 wr (.slice pt ch.length ct) vw ws)) (fun _ _ i _ => ls.length - (intOf i).toNat)
                    case atStart => exact ⟨0, [], .slice none 0 0, total - g.added, Nat.zero_le _, rfl, rfl, rfl, Lib.hid rfl, by omega, Nat.le_refl _, Lib.hid ⟨HLO3.out, World.ownsRow_nil _ _ _ _, hVV3, World.grownBy.refl _ _⟩⟩
                    case round =>
                      obtain ⟨k4, ws, vw, need, hk4, rfl, rfl, rfl, HLF, hnb, hwl, HWA⟩ := hrel
                      obtain ⟨q0, q1, y1⟩ := HWA.out.cells
                      obtain ⟨pv, cv, rfl⟩ := owns_len HWA.out.row
                      have hLq := Lays.of_cell q1
                      have hrw2 := HRW.out.grown HWA.out.grow
                      by_cases hlt5 : k4 < ls.length
                      · obtain ⟨tw, htw⟩ := some_of_lt hlt5
                        obtain ⟨pw2, bw2, ow2, cw2, ew2, hmw2, hpw2, hcw2⟩ := hrw2.row.ex
                        simp only [Value.slice.injEq] at ew2
                        obtain ⟨rfl, -, rfl⟩ := ew2
                        obtain ⟨rfl, hlw⟩ := hpw2 (by omega)
                        have hcs := hcw2 k4 tw htw
                        have c0 := hcs 0 _ rfl
                        have c1 := hcs 1 _ rfl
                        simp only [Nat.add_zero] at c0 c1
                        have hLc := Lays.of_cell c0
                        have htb2 := HSP.out.2 tw (List.mem_of_getElem? htw)
                        have hsd := sumHi_bd (spOk_drop HSP.out k4)
                        have hsd2 := sumHi_bd (spOk_drop HSP.out (k4 + 1))
                        have hsd3 := sumHi_drop htw
                        have hgrow := layF_grow HLF.out htw
                        generalize hM : sumHi (ls.drop k4) = M at hsd hsd3 ⊢
                        have hM2 : sumHi (ls.drop (k4 + 1)) = M - tw.hi := by omega
                        rw [hM2] at hgrow hsd2
                        have HGROW := Lib.hid hgrow
                        clear hgrow
                        have HM2 := Lib.hid hM2
                        clear hM2
                        clear hcs hcw2 hpw2 htw hM hsd3 hrw2
                        go_wp2_with (at_builtin; refine wpList_append1W (.tmp 254) (.tmp 256) elem_int1 rfl rfl rfl HWA.out.row [.int .i64 (max tw.lo (need - (M - tw.hi)))] _ (by simp) rfl rfl ?h1 ?h2 ?h4 ?h3 ?_)
                        case h1 => intro u hu; simp at hu; subst hu; rfl
                        case h2 => omega
                        case h4 => decide
                        case h3 => exact HWA.out.grow.size
                        intro v' w' hown' happ
                        have hpush := HWA.out.push (Nat.le_refl _) hBV3 hown' happ
                        have hoA := HWA.out.after hBV3 happ
                        have hoB := hoA
                        unfold LaysAs at hoB
                        have s1 := LaysAs.cell hoA 1 _ rfl
                        have s2 : w'.frozen? ⟨V.heap.size + 1, 1, none⟩ = false := by simp [World.frozen?, hoB]
                        have hLs := Lays.of_cell s1
                        obtain ⟨pv2, cv2, rfl⟩ := owns_len hown'
                        have HPUSH := Lib.hid hpush
                        clear hpush
                        clear happ hown' hoA hoB
                        go_wp2_with fail
                        go_roundw
                        case rel => exact ⟨k4 + 1, _, _, _, by omega, by go_num, by rw [HM2.out], rfl, Lib.hid HGROW.out, by omega, by simp; omega, Lib.hid HPUSH.out⟩
                        case measure => simp [intOf] <;> omega
                      · have hkn : k4 = ls.length := by omega
                        have hlf := HLF.out
                        rw [hkn, List.drop_length] at hlf
                        simp only [layF, List.append_nil] at hlf
                        have hf := HFIN2.out
                        rw [hlf] at hf
                        have r04 := HWA.out.grow.cell r03 (by simp; omega)
                        have r14 := HWA.out.grow.cell r13 (by simp; omega)
                        have f04 := (grown_frozen HWA.out.grow (i := 0) (Lays.of_cell r03).lt (by simp; omega)).trans f03
                        have f14 := (grown_frozen HWA.out.grow (i := 1) (Lays.of_cell r13).lt (by simp; omega)).trans f13
                        have hLr4 := Lays.of_cell r04
                        have HF := Lib.hid hf
                        clear hf
                        clear hlf hkn
                        have hrtW := (RowOff.grown (g := V.heap.size + 1) ⟨HRT4.out, .inr (fun g hg => by rw [List.mem_singleton.1 hg]; exact HRTO.out _ (by omega))⟩ HWA.out.grow).row
                        have hrtF := ((⟨hrtW, .inr (fun g hg => by rw [List.mem_singleton.1 hg]; exact HRTO.out _ (by omega))⟩ : RowOff (fun q : Part => [.int .i64 q.gain, .int .i64 q.off]) 2 wr [w.heap.size + 1 + 1] _ _).set (a := ⟨w.heap.size + 1 + 1, 0, none⟩) (by simp) (.slice pt ch.length ct)).set (a := ⟨w.heap.size + 1 + 1, 1, none⟩) (by simp) (.slice pv ws.length cv)
                        have hroF := row_ints ((HWA.out.row.set (p := ⟨w.heap.size + 1 + 1, 0, none⟩) (by dsimp only; omega) (.slice pt ch.length ct)).set (p := ⟨w.heap.size + 1 + 1, 1, none⟩) (by dsimp only; omega) (.slice pv ws.length cv))
                        have hEwr := hEV.trans HWA.out.ext
                        have HRTF := Lib.hid hrtF
                        clear hrtF
                        have HROF := Lib.hid hroF
                        clear hroF
                        clear hrtW
                        go_wp2_with fail
                        refine bodyPost_ret (v := .tuple #[.agg #[.slice pt ch.length ct, .slice pv ws.length cv], .int .i64 0]) (by simp [results, Tryz.results10, go_sem, r04, r14]) rfl ?_
                        exact ⟨_, _, ch, ws, _, rfl, HF.out, HRTF.out.row, HROF.out, (by repeat' (first | exact hEwr | with_reducible exact World.Exts.refl _ | with_reducible refine World.Exts.alloc ?_ _ | with_reducible refine World.Exts.drew ?_ | with_reducible refine World.Exts.drewN ?_ _ | with_reducible refine World.Exts.ext ?_ _ | with_reducible refine World.Exts.setCell ?_ ?_ _ | (simp; done) | exact World.size_ext_le _ _ | (simp; omega)))⟩
        ·
          obtain ⟨⟨ps, xv⟩, hxl⟩ := some_of_lt (xs := l) (k := j) (by omega)
          obtain ⟨⟨s, tv⟩, hx⟩ := some_of_lt (xs := U) (k := j) (by omega)
          have hs : (U.map Prod.fst)[j]? = some s := by rw [List.getElem?_map, hx]; rfl
          have hrs := HRT.out _ (HUM.out _ (List.mem_of_getElem? hx))
          have hps : ps = parts s g.loads := by
            have h1 : (l.map Prod.fst)[j]? = some ps := by rw [List.getElem?_map, hxl]; rfl
            rw [HL1.out, List.getElem?_map, hs] at h1
            exact (Option.some.inj h1).symm
          subst hps
          have hpr := row_parts (HL3.out _ (List.mem_of_getElem? hxl)).1
          dsimp only at hpr hrs
          obtain ⟨qp, cp, rfl⟩ := hpr.len
          obtain ⟨pr, br, or, cr, er, hmr, hqr, hcr⟩ := HROW.out.ex
          simp only [Value.slice.injEq] at er
          obtain ⟨rfl, -, rfl⟩ := er
          obtain ⟨rfl, hlr⟩ := hqr (by omega)
          have a0 := hcr j _ hxl 0 _ rfl
          simp only [Nat.mul_one, Nat.add_zero] at a0
          obtain ⟨qn, cn, n0, hnr⟩ := HRT2.out.cell (m := j + 1) (Nat.le_refl _) (by simp; omega)
          obtain ⟨⟨qo, no, co, o0⟩, fo⟩ := HRT2.out.old (m := j) (by simp; omega)
          obtain ⟨hpo, hst⟩ := rest_step hs hrs h6 (by simpa using hul)
          generalize restOf (((U.map Prod.fst).map fun s => parts s g.loads).drop (j + 1)) = R at hpo hst n0 hnr
          have hlB := Lays.of_cell n0
          have HPO := Lib.hid hpo
          clear hpo
          have HST := Lib.hid hst
          clear hst
          have HRS := Lib.hid hrs
          clear hrs
          have HS := Lib.hid hs
          clear hs
          have HPR := Lib.hid hpr
          clear hpr
          have HNR := Lib.hid hnr
          clear hnr
          clear hcr hqr hxl hx
          go_wp2_with fail
          refine wp_region_calls 14 (fun i => i == 6 || i == 12) (fun c v W => RestOne (parts s g.loads) R c W v) (by kernel_rfl) (fun ν => by kernel_rfl) (by kernel_rfl) (by kernel_rfl) (by kernel_rfl) (by kernel_rfl) ?mono ?_
          rotate_left 1
          apply Exists.intro
          refine ⟨fun ν L hL => ?_, fun c oc hc hU ν W hE hΦ => ?_, fun ν W hE hΦ => ?_⟩
          · simp only [modU, cOp, List.mapIdx_cons, List.mapIdx_nil, Nat.zero_add, Nat.reduceAdd, Nat.reduceBEq, Bool.or_false, Bool.false_or, Bool.or_true, Bool.true_or, Bool.or_self, Bool.false_eq_true, if_false, if_true, List.take_succ_cons, List.take_zero]
            repeat (go_big_quiet_step (fail))
            exact wpQuiet_nil hL
          · simp at hU
            rcases hU with rfl | rfl
            · simp only [List.getElem?_cons_succ, List.getElem?_cons_zero, Option.some.injEq] at hc
              subst hc
              refine Oper.gives_fn rfl rfl rfl (enters_of Tryz.func41 (by kernel_rfl) rfl) ?_ rfl
              refine (r04_sums_any _ _ W (HPR.out.mono (World.Exts.trans (by repeat' (first | with_reducible exact World.Exts.refl _ | with_reducible refine World.Exts.alloc ?_ _ | with_reducible refine World.Exts.drew ?_ | with_reducible refine World.Exts.drewN ?_ _ | with_reducible refine World.Exts.ext ?_ _ | with_reducible refine World.Exts.setCell ?_ ?_ _ | (simp; done) | exact World.size_ext_le _ _ | (simp; omega))) hE)) g.loads.length (by omega) (parts_good _ _) (Nat.le_trans (parts_len _ HRS.out) (by decide))).mono ?_
              rintro e W' ⟨v', rfl, h1, h2⟩
              exact ⟨v', rfl, h2, fun _ => h1, fun e => (by cases e)⟩
            · simp only [List.getElem?_cons_succ, List.getElem?_cons_zero, Option.some.injEq] at hc
              subst hc
              have h4 := (hΦ 6 rfl ⟨⟨6, .data⟩, by simp, rfl, rfl⟩).1 rfl
              refine Oper.gives_fn rfl rfl rfl (enters_of Tryz.func40 (by kernel_rfl) rfl) ?_ rfl
              have h := HPO.out
              have hnW := HNR.out.mono hE
              have hcon := r04_plus_any (sums (parts s g.loads)) R (ν 6) _ W h4 hnW h.fa h.fb h.wa h.wb h.hl
              refine hcon.mono ?_
              rintro e W' ⟨v', rfl, h1, h2⟩
              exact ⟨v', rfl, h2, fun e => (by cases e), fun _ => h1⟩
          · have h5 := (hΦ 12 (by decide) rfl).2 rfl
            simp only [List.drop_succ_cons, List.drop_zero]
            generalize ν 12 = v5 at h5 ⊢
            obtain ⟨q5, c5, rfl⟩ := h5.len
            obtain ⟨XS, rfl⟩ := hE
            have hput := (HRT2.out.exts (W' := ((World.ext _ X5).ext XS)) (by repeat' (first | with_reducible exact World.Exts.refl _ | with_reducible refine World.Exts.alloc ?_ _ | with_reducible refine World.Exts.drew ?_ | with_reducible refine World.Exts.drewN ?_ _ | with_reducible refine World.Exts.ext ?_ _ | with_reducible refine World.Exts.setCell ?_ ?_ _ | (simp; done) | exact World.size_ext_le _ _ | (simp; omega)))).put (by simp <;> omega) (by rw [HST.out]; exact h5)
            have HPUT := Lib.hid hput
            clear hput
            have H5 := Lib.hid h5
            clear h5
            clear hΦ
            go_wp2_with fail
            go_roundw
            case rel => exact ⟨j, by omega, by go_num, Lib.hid HPUT.out, (by repeat' (first | with_reducible exact World.Exts.refl _ | with_reducible refine World.Exts.alloc ?_ _ | with_reducible refine World.Exts.drew ?_ | with_reducible refine World.Exts.drewN ?_ _ | with_reducible refine World.Exts.ext ?_ _ | with_reducible refine World.Exts.setCell ?_ ?_ _ | (simp; done) | exact World.size_ext_le _ _ | (simp; omega)))⟩
            case measure => simp [intOf] <;> omega
          case mono => exact fun c v W W' h hE => h.mono hE
end Go.Proofs.YtmkhjcgaidmehaaGreat

/-
  Walks of the reference: Truth, all ways.
-/
namespace Go.Proofs.YtmkhjcgaidmehaaGreat
open Go.RowKit Kr
set_option linter.unusedSimpArgs false

set_option maxRecDepth 4000 in
set_option maxHeartbeats 2000000 in
theorem r04_Truth_any (ts : List (Kr.Scale × Value)) (v : Value) (g : Gear) (lv rv sv : Value) (total : Int) (w : World) (hb : BayAt w v ts) (hg : GearAt w (g, lv, rv, sv)) :
    Calls Tryz.prog 10 #[.agg #[v], .agg #[lv, .int .i64 g.added, .int .i64 g.base, .int .i64 g.jitter, rv, sv, .int .i64 g.spread, .bool g.stamp], .int .i64 total] w fun e w' => ∃ v1 v2 t1 t2 er, e = .returned (.tuple #[.agg #[v1, v2], .int .i64 er]) ∧ truthR (ts.map Prod.fst) g total = ((t1, t2), er) ∧ IsRow (fun q : Part => [.int .i64 q.gain, .int .i64 q.off]) 2 w' v1 t1 ∧ IsRow (fun x : Int => [.int .i64 x]) 1 w' v2 t2 ∧ w.Exts w' := by
  by_cases hz : check (ts.map Prod.fst) g = 0
  · cases hto : inb 0 10000000 total
    · have hfin : truthR (ts.map Prod.fst) g total = (([], []), 6) := by unfold truthR; rw [if_pos hz, hto]; rfl
      obtain ⟨p, cap, hv⟩ := hb.row.len
      subst hv
      have hl1 := hg.l
      have hl2 := hg.r
      have hl3 := hg.s
      dsimp only at hl1 hl2 hl3
      obtain ⟨p1, cap1, rfl⟩ := hl1.len
      obtain ⟨p2, cap2, rfl⟩ := hl2.len
      obtain ⟨p3, cap3, rfl⟩ := hl3.len
      have HG := Lib.hid hg
      clear hg
      have HB := Lib.hid hb
      clear hb
      have HZ := Lib.hid hz
      clear hz
      have HTO := Lib.hid hto
      clear hto
      have HFIN := Lib.hid hfin
      clear hfin
      clear hl1 hl2 hl3
      go_enter Tryz.func10, Tryz.ntmps10
      go_wp2_with (first
        | (go_at_call 22; refine (r04_Check_any ts _ g _ _ _ _ (HB.out.mono (by repeat' (first | with_reducible exact World.Exts.refl _ | with_reducible refine World.Exts.alloc ?_ _ | with_reducible refine World.Exts.drew ?_ | with_reducible refine World.Exts.drewN ?_ _ | with_reducible refine World.Exts.ext ?_ _ | with_reducible refine World.Exts.setCell ?_ ?_ _ | (simp; done) | exact World.size_ext_le _ _ | (simp; omega)))) (HG.out.l.mono (by repeat' (first | with_reducible exact World.Exts.refl _ | with_reducible refine World.Exts.alloc ?_ _ | with_reducible refine World.Exts.drew ?_ | with_reducible refine World.Exts.drewN ?_ _ | with_reducible refine World.Exts.ext ?_ _ | with_reducible refine World.Exts.setCell ?_ ?_ _ | (simp; done) | exact World.size_ext_le _ _ | (simp; omega)))) (HG.out.r.mono (by repeat' (first | with_reducible exact World.Exts.refl _ | with_reducible refine World.Exts.alloc ?_ _ | with_reducible refine World.Exts.drew ?_ | with_reducible refine World.Exts.drewN ?_ _ | with_reducible refine World.Exts.ext ?_ _ | with_reducible refine World.Exts.setCell ?_ ?_ _ | (simp; done) | exact World.size_ext_le _ _ | (simp; omega)))) (HG.out.s.mono (by repeat' (first | with_reducible exact World.Exts.refl _ | with_reducible refine World.Exts.alloc ?_ _ | with_reducible refine World.Exts.drew ?_ | with_reducible refine World.Exts.drewN ?_ _ | with_reducible refine World.Exts.ext ?_ _ | with_reducible refine World.Exts.setCell ?_ ?_ _ | (simp; done) | exact World.size_ext_le _ _ | (simp; omega))))).mono ?_; rintro e w' ⟨rfl, X2, rfl⟩; rw [HZ.out])
        | (go_at_call 37; refine (r04_within_any _ _ _ _).mono ?_; rintro e w' ⟨rfl, X3, rfl⟩; rw [HTO.out]))
      refine bodyPost_ret (v := .tuple #[.agg #[.slice none 0 0, .slice none 0 0], .int .i64 6]) (by simp [results, Tryz.results10, go_sem]) rfl ?_
      exact ⟨_, _, [], [], _, rfl, HFIN.out, IsRow.nil _, IsRow.nil _, (by repeat' (first | with_reducible exact World.Exts.refl _ | with_reducible refine World.Exts.alloc ?_ _ | with_reducible refine World.Exts.drew ?_ | with_reducible refine World.Exts.drewN ?_ _ | with_reducible refine World.Exts.ext ?_ _ | with_reducible refine World.Exts.setCell ?_ ?_ _ | (simp; done) | exact World.size_ext_le _ _ | (simp; omega)))⟩
    · exact r04_Truth_run ts v g lv rv sv total w hb hg hz hto
  · have hfin : truthR (ts.map Prod.fst) g total = (([], []), check (ts.map Prod.fst) g) := by unfold truthR; rw [if_neg hz]
    have hc := check_three (ts.map Prod.fst) g
    obtain ⟨p, cap, hv⟩ := hb.row.len
    subst hv
    have hl1 := hg.l
    have hl2 := hg.r
    have hl3 := hg.s
    dsimp only at hl1 hl2 hl3
    obtain ⟨p1, cap1, rfl⟩ := hl1.len
    obtain ⟨p2, cap2, rfl⟩ := hl2.len
    obtain ⟨p3, cap3, rfl⟩ := hl3.len
    have HG := Lib.hid hg
    clear hg
    have HB := Lib.hid hb
    clear hb
    clear hl1 hl2 hl3
    rcases hc with hc | hc | hc
    · exact absurd hc hz
    all_goals
      have he := hc
      rw [hc] at hfin
      have HE := Lib.hid he
      clear he
      have HFIN := Lib.hid hfin
      clear hfin
      clear hc hz
      go_enter Tryz.func10, Tryz.ntmps10
      go_wp2_with (go_at_call 22; refine (r04_Check_any ts _ g _ _ _ _ (HB.out.mono (by repeat' (first | with_reducible exact World.Exts.refl _ | with_reducible refine World.Exts.alloc ?_ _ | with_reducible refine World.Exts.drew ?_ | with_reducible refine World.Exts.drewN ?_ _ | with_reducible refine World.Exts.ext ?_ _ | with_reducible refine World.Exts.setCell ?_ ?_ _ | (simp; done) | exact World.size_ext_le _ _ | (simp; omega)))) (HG.out.l.mono (by repeat' (first | with_reducible exact World.Exts.refl _ | with_reducible refine World.Exts.alloc ?_ _ | with_reducible refine World.Exts.drew ?_ | with_reducible refine World.Exts.drewN ?_ _ | with_reducible refine World.Exts.ext ?_ _ | with_reducible refine World.Exts.setCell ?_ ?_ _ | (simp; done) | exact World.size_ext_le _ _ | (simp; omega)))) (HG.out.r.mono (by repeat' (first | with_reducible exact World.Exts.refl _ | with_reducible refine World.Exts.alloc ?_ _ | with_reducible refine World.Exts.drew ?_ | with_reducible refine World.Exts.drewN ?_ _ | with_reducible refine World.Exts.ext ?_ _ | with_reducible refine World.Exts.setCell ?_ ?_ _ | (simp; done) | exact World.size_ext_le _ _ | (simp; omega)))) (HG.out.s.mono (by repeat' (first | with_reducible exact World.Exts.refl _ | with_reducible refine World.Exts.alloc ?_ _ | with_reducible refine World.Exts.drew ?_ | with_reducible refine World.Exts.drewN ?_ _ | with_reducible refine World.Exts.ext ?_ _ | with_reducible refine World.Exts.setCell ?_ ?_ _ | (simp; done) | exact World.size_ext_le _ _ | (simp; omega))))).mono ?_; rintro e w' ⟨rfl, X2, rfl⟩; rw [HE.out])
      first
        | (refine bodyPost_ret (v := .tuple #[.agg #[.slice none 0 0, .slice none 0 0], .int .i64 41]) (by simp [results, Tryz.results10, go_sem]) rfl ?_
           exact ⟨_, _, [], [], _, rfl, HFIN.out, IsRow.nil _, IsRow.nil _, (by repeat' (first | with_reducible exact World.Exts.refl _ | with_reducible refine World.Exts.alloc ?_ _ | with_reducible refine World.Exts.drew ?_ | with_reducible refine World.Exts.drewN ?_ _ | with_reducible refine World.Exts.ext ?_ _ | with_reducible refine World.Exts.setCell ?_ ?_ _ | (simp; done) | exact World.size_ext_le _ _ | (simp; omega)))⟩)
        | (refine bodyPost_ret (v := .tuple #[.agg #[.slice none 0 0, .slice none 0 0], .int .i64 40]) (by simp [results, Tryz.results10, go_sem]) rfl ?_
           exact ⟨_, _, [], [], _, rfl, HFIN.out, IsRow.nil _, IsRow.nil _, (by repeat' (first | with_reducible exact World.Exts.refl _ | with_reducible refine World.Exts.alloc ?_ _ | with_reducible refine World.Exts.drew ?_ | with_reducible refine World.Exts.drewN ?_ _ | with_reducible refine World.Exts.ext ?_ _ | with_reducible refine World.Exts.setCell ?_ ?_ _ | (simp; done) | exact World.size_ext_le _ _ | (simp; omega)))⟩)
end Go.Proofs.YtmkhjcgaidmehaaGreat
