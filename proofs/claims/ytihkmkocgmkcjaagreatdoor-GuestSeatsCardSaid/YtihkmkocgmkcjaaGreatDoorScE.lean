/-
  Walks of package scale: fits, asked, Check.
-/
import Derived.Test.YtihkmkocgmkcjaaGreatDoorScD
namespace Go.Proofs.YtihkmkocgmkcjaaGreatDoor
open Go.RowKit Go.Maps Kr

def zeroScale : Value := .agg #[.int .i64 0, .int .i64 0, .int .i64 0, .int .i64 0, .int .i64 0, .int .i64 0, .slice none 0 0]
theorem zero_Scale (w : World) : (zeroValue 84).run Tryz.prog w = .ok zeroScale w := by kernel_rfl

theorem look_none {ts : List (Kr.Scale × Value)} {W : World} {m n : Nat} {D : DataW Value} (h : W.ownsMap Tryz.prog 3 readSelf m n D) (hD : HoldsPairs D (byId ts)) {i : Int} (hw : (Lit.int .i64 i).wf = true) (hf : ts.find? (fun x => x.1.id == i) = none) :
    (Instr.lookup 223 (.map (some m)) (.int .i64 i) true).run Tryz.prog W = .ok (.tuple #[zeroScale, .bool false]) W := by
  obtain ⟨v, ps, hrun, hv⟩ := h.look_ok law_int Tryz.underlying223 (zero_Scale W) (zd := .held zeroScale) (zp := []) rfl (keyOf_int_mk Tryz.underlying3 hw)
  rw [hD.at_, hD.has_, byId_find, hf] at *
  simp [readSelf] at hv
  rw [hrun, hv.1]
  rfl
theorem look_some {ts : List (Kr.Scale × Value)} {W : World} {m n : Nat} {D : DataW Value} (h : W.ownsMap Tryz.prog 3 readSelf m n D) (hD : HoldsPairs D (byId ts)) {i : Int} {x : Kr.Scale × Value} (hw : (Lit.int .i64 i).wf = true) (hf : ts.find? (fun x => x.1.id == i) = some x) :
    (Instr.lookup 223 (.map (some m)) (.int .i64 i) true).run Tryz.prog W = .ok (.tuple #[scaleVal x, .bool true]) W := by
  obtain ⟨v, ps, hrun, hv⟩ := h.look_ok law_int Tryz.underlying223 (zero_Scale W) (zd := .held zeroScale) (zp := []) rfl (keyOf_int_mk Tryz.underlying3 hw)
  rw [hD.at_, hD.has_, byId_find, hf] at *
  simp [readSelf] at hv
  rw [hrun, hv.1]
  rfl

set_option maxHeartbeats 1000000 in
theorem hall_fits_1_any (ts : List (Kr.Scale × Value)) (v : Value) (l : Load) (hb cb : Nat) (w : World) (hh : HallAt Tryz.prog 3 w hb v ts) (hc : w.cell? ⟨cb, 0, none⟩ = some (.pointer (some ⟨hb, 0, none⟩)))
    (hok : ∀ x ∈ ts, right x.1 = true) (hw : (Lit.int .i64 l.scale).wf = true) :
    Calls Tryz.prog 137 #[.agg #[.int .i64 l.scale, .int .i64 l.shown], .pointer (some ⟨cb, 0, none⟩)] w fun e w' => e = .returned (.bool (!loadOk (ts.map Prod.fst) l)) ∧ w.Exts w' := by
  obtain ⟨m, D, h0, h1, hM, hD⟩ := hh.ex
  haveI := Lays.of_cell hc
  haveI := Lays.of_cell h0
  rw [loadOk_find]
  cases hf : ts.find? (fun x => x.1.id == l.scale) with
  | none =>
    have hl1 := look_none (ownsMap_exts (W := (w.alloc (.cells #[.int .i64 l.scale, .int .i64 l.shown] 110)).drew) hM exq) hD hw hf
    have hl2 := look_none (ownsMap_exts (W := ((w.alloc (.cells #[.int .i64 l.scale, .int .i64 l.shown] 110)).alloc (.cells #[.int .i64 0, .int .i64 0, .int .i64 0, .int .i64 0, .int .i64 0, .int .i64 0, .slice none 0 0] 84)).drew) hM exq) hD hw hf
    unfold zeroScale at hl1 hl2
    clear hh hM hD hok hf
    go_enter Tryz.func137, Tryz.ntmps137
    go_wp2_with fail
    go_big_region
    all_goals
      go_wp2_with fail
      go_ret
      exact ⟨rfl, exq⟩
  | some x =>
    obtain ⟨s, sv⟩ := x
    have hmem := List.mem_of_find?_eq_some hf
    have htr := hh.bay.tr _ hmem
    obtain ⟨_, hst, _⟩ := right_bounds (hok _ hmem)
    dsimp only at htr hst
    obtain ⟨q1, cp1, rfl⟩ := htr.len
    have hl1 := look_some (ownsMap_exts (W := (w.alloc (.cells #[.int .i64 l.scale, .int .i64 l.shown] 110)).drew) hM exq) hD hw hf
    have hl2 := look_some (ownsMap_exts (W := ((w.alloc (.cells #[.int .i64 l.scale, .int .i64 l.shown] 110)).alloc (.cells #[.int .i64 0, .int .i64 0, .int .i64 0, .int .i64 0, .int .i64 0, .int .i64 0, .slice none 0 0] 84)).drew) hM exq) hD hw hf
    unfold scaleVal at hl1 hl2
    dsimp only at hl1 hl2
    clear hh hM hD hok hf htr hmem
    go_enter Tryz.func137, Tryz.ntmps137
    go_wp2_with fail
    go_big_region
    all_goals
      go_wp2_with (go_at_call 138; refine (scale_shown_any _ _ _ hst.1).mono ?_; rintro e w' ⟨rfl, X3, rfl⟩)
      go_ret
      exact ⟨rfl, exq⟩

theorem gearOk_eq (ts : List (Kr.Scale × Value)) (g : Gear) : gearOk (ts.map Prod.fst) g = (decide ((g.loads.length : Int) ≤ 6) && (!(g.loads.any fun l => !loadOk (ts.map Prod.fst) l) && bare g)) := by
  have e1 : decide ((g.loads.length : Int) ≤ 6) = decide (g.loads.length ≤ 6) := by rw [Bool.eq_iff_iff]; simp; omega
  unfold gearOk
  rw [List.all_eq_not_any_not, e1, Bool.and_comm (!_) (decide _), Bool.and_assoc]

set_option maxHeartbeats 1000000 in
theorem hall_fits_any (ts : List (Kr.Scale × Value)) (v : Value) (g : Gear) (lv rv sv : Value) (hb : Nat) (w : World) (hh : HallAt Tryz.prog 3 w hb v ts) (hok : ∀ x ∈ ts, right x.1 = true)
    (hl : IsRow (fun t : Kr.Load => [.int .i64 t.scale, .int .i64 t.shown]) 2 w lv g.loads) (hr : IsRow (fun x : Int => [.int .i64 x]) 1 w rv g.runners) (hs : IsRow (fun x : Int => [.int .i64 x]) 1 w sv g.strokes) (hlen : g.runners.length ≤ 1000 ∧ g.strokes.length ≤ 1000) (hw : ∀ l ∈ g.loads, (Lit.int .i64 l.scale).wf = true) :
    Calls Tryz.prog 98 #[.pointer (some ⟨hb, 0, none⟩), .agg #[lv, .int .i64 g.added, .int .i64 g.base, .int .i64 g.jitter, rv, sv, .int .i64 g.spread, .bool g.stamp]] w fun e w' => e = .returned (.bool (gearOk (ts.map Prod.fst) g)) ∧ w.Exts w' := by
  rw [gearOk_eq]
  have HL := Lib.hid hl
  clear hl
  have HR := Lib.hid hr
  clear hr
  have HS := Lib.hid hs
  clear hs
  have HH := Lib.hid hh
  clear hh
  have HOK := Lib.hid hok
  clear hok
  have HW := Lib.hid hw
  clear hw
  obtain ⟨q1, cp1, rfl⟩ := HL.out.len
  obtain ⟨q2, cp2, rfl⟩ := HR.out.len
  obtain ⟨q3, cp3, rfl⟩ := HS.out.len
  cases h6 : decide ((g.loads.length : Int) ≤ 6)
  · go_enter Tryz.func98, Tryz.ntmps98
    go_wp2_with fail
    go_ret
    exact ⟨rfl, exq⟩
  cases h7 : g.loads.any fun l => !loadOk (ts.map Prod.fst) l
  all_goals
    have H7 := Lib.hid h7
    clear h7
    go_enter Tryz.func98, Tryz.ntmps98
    go_wp2_with (first
      | (go_at_call 139; refine (ContainsFunc_Load_any g.loads (fun l => !loadOk (ts.map Prod.fst) l) _ _ _ _ (HL.out.mono exq) (enters_of Tryz.func137 (by kernel_rfl) rfl) (answers1 fun t ht W hW => hall_fits_1_any ts v t hb _ W (HH.out.mono (World.Exts.trans exq hW)) (hW.cell (by simp [go_sem])) HOK.out (HW.out t ht))).mono ?_; rintro e w' ⟨rfl, X2, rfl⟩; rw [H7.out])
      | (go_at_call 105; refine (scale_bare_any g _ _ _ _ (HR.out.mono exq) (HS.out.mono exq) hlen).mono ?_; rintro e w' ⟨rfl, X2, rfl⟩))
    go_ret
    exact ⟨rfl, exq⟩

/-- Gear, and the values of its three slices. -/
abbrev GearV := Gear × Value × Value × Value
def gearC (x : GearV) : List Value := [x.2.1, .int .i64 x.1.added, .int .i64 x.1.base, .int .i64 x.1.jitter, x.2.2.1, x.2.2.2, .int .i64 x.1.spread, .bool x.1.stamp]
structure GearAt (w : World) (x : GearV) : Prop where
  l : IsRow (fun t : Kr.Load => [.int .i64 t.scale, .int .i64 t.shown]) 2 w x.2.1 x.1.loads
  r : IsRow (fun x : Int => [.int .i64 x]) 1 w x.2.2.1 x.1.runners
  s : IsRow (fun x : Int => [.int .i64 x]) 1 w x.2.2.2 x.1.strokes
  len : x.1.runners.length ≤ 1000 ∧ x.1.strokes.length ≤ 1000
  wf : ∀ l ∈ x.1.loads, (Lit.int .i64 l.scale).wf = true
theorem GearAt.mono {w w' : World} {x : GearV} (h : GearAt w x) (hw : w.Exts w') : GearAt w' x := ⟨h.l.mono hw, h.r.mono hw, h.s.mono hw, h.len, h.wf⟩
def askErr (ts : List (Kr.Scale × Value)) (gs : List GearV) : Int := if bayOk (ts.map Prod.fst) then (if gs.all (fun x => gearOk (ts.map Prod.fst) x.1) then 0 else 41) else 40
theorem bay_right {ts : List (Kr.Scale × Value)} (h : bayOk (ts.map Prod.fst) = true) : ∀ x ∈ ts, right x.1 = true := by
  intro x hx
  simp [bayOk] at h
  exact bayFrom_right h.1 x.1 (List.mem_map.2 ⟨x, hx, rfl⟩)

set_option maxRecDepth 4000 in
set_option maxHeartbeats 2000000 in
theorem scale_asked_any (ts : List (Kr.Scale × Value)) (v : Value) (gs : List GearV) (gv : Value) (w : World) (hrow : BayAt w v ts) (hg : IsRow gearC 8 w gv gs) (hgs : ∀ x ∈ gs, GearAt w x) :
    Calls Tryz.prog 61 #[.agg #[v], gv] w fun e w' => ∃ p, e = .returned (.tuple #[.pointer p, .int .i64 (askErr ts gs)]) ∧ (askErr ts gs = 0 → bayOk (ts.map Prod.fst) = true ∧ ∃ b, p = some ⟨b, 0, none⟩ ∧ HallAt Tryz.prog 3 w' b v ts) ∧ w.Exts w' := by
  obtain ⟨q, cap, rfl⟩ := hrow.row.len
  obtain ⟨p, b, o, gcap, rfl, hm, hp, hc⟩ := hg.ex
  have HBAY := Lib.hid hrow
  clear hrow
  have HP := Lib.hid hp
  clear hp
  have HC := Lib.hid hc
  clear hc
  have HGS := Lib.hid hgs
  clear hgs
  clear hg
  cases hb : bayOk (ts.map Prod.fst)
  · have he : askErr ts gs = 40 := by unfold askErr; rw [hb]; rfl
    have ho := openErr_bad hb
    rw [he]
    have HO := Lib.hid ho
    clear ho
    go_enter Tryz.func61, Tryz.ntmps61
    go_wp2_with (go_at_call 97; refine (scale_open_any ts _ _ (HBAY.out.mono exq)).mono ?_; rintro e w' ⟨pp, rfl, -, X2, rfl⟩; rw [HO.out])
    go_ret2
    exact ⟨none, rfl, fun h => (by cases h), exq⟩
  have ho := openErr_ok hb
  have hok := bay_right hb
  have HO := Lib.hid ho
  clear ho
  have HB := Lib.hid hb
  clear hb
  have HOK := Lib.hid hok
  clear hok
  go_enter Tryz.func61, Tryz.ntmps61
  go_wp2_with (go_at_call 97; refine (scale_open_any ts _ _ (HBAY.out.mono exq)).mono ?_; rintro e w' ⟨pp, rfl, hh, X2, rfl⟩; rw [HO.out]; obtain ⟨hb, rfl, hall⟩ := hh HB.out; have HH := Lib.hid hall; clear hall hh)
  go_loopw [20] (fun i wr => ∃ k : Nat, k ≤ gs.length ∧ i = .int .i64 k ∧ Hid ((gs.take k).all (fun x => gearOk (ts.map Prod.fst) x.1) = true) ∧ (World.ext _ X2).Exts wr) (fun i _ => gs.length - (intOf i).toNat)
  case atStart => exact ⟨0, Nat.zero_le _, rfl, rfl, exq⟩
  case round =>
    obtain ⟨k, hk, rfl, HA, hE⟩ := hrel
    obtain ⟨X0, rfl⟩ := hE
    by_cases hlt : k < gs.length
    · obtain ⟨rfl, hl⟩ := HP.out (by omega)
      obtain ⟨⟨g, lv, rv, sv⟩, hx⟩ := some_of_lt hlt
      have hga := HGS.out _ (List.mem_of_getElem? hx)
      have hl1 := hga.l
      have hl2 := hga.r
      have hl3 := hga.s
      have hcs := HC.out k _ hx
      have c0 := hcs 0 _ rfl
      have c1 := hcs 1 _ rfl
      have c2 := hcs 2 _ rfl
      have c3 := hcs 3 _ rfl
      have c4 := hcs 4 _ rfl
      have c5 := hcs 5 _ rfl
      have c6 := hcs 6 _ rfl
      have c7 := hcs 7 _ rfl
      simp only [Nat.add_zero] at c0 c1 c2 c3 c4 c5 c6 c7
      dsimp only at hl1 hl2 hl3 c0 c1 c2 c3 c4 c5 c6 c7
      obtain ⟨q1, cp1, rfl⟩ := hl1.len
      obtain ⟨q2, cp2, rfl⟩ := hl2.len
      obtain ⟨q3, cp3, rfl⟩ := hl3.len
      have HGA := Lib.hid hga
      clear hga
      clear hl1 hl2 hl3 hcs HP
      cases hf : gearOk (ts.map Prod.fst) g
      · have HF := Lib.hid hf
        clear hf
        have HI := Lib.hid hx
        clear hx
        go_wp2_with (go_at_call 98; refine (hall_fits_any ts _ g _ _ _ hb _ (HH.out.mono exq) HOK.out (HGA.out.l.mono exq) (HGA.out.r.mono exq) (HGA.out.s.mono exq) HGA.out.len HGA.out.wf).mono ?_; rintro e w' ⟨rfl, X3, rfl⟩; rw [HF.out])
        go_ret2
        have he : askErr ts gs = 41 := by
          unfold askErr
          rw [HB.out, if_pos rfl, if_neg]
          rw [List.all_eq_true]
          intro hall
          have := hall _ (List.mem_of_getElem? HI.out)
          rw [HF.out] at this
          cases this
        rw [he]
        exact ⟨none, rfl, fun h => (by cases h), exq⟩
      · have HF := Lib.hid hf
        clear hf
        have HI := Lib.hid hx
        clear hx
        go_wp2_with (go_at_call 98; refine (hall_fits_any ts _ g _ _ _ hb _ (HH.out.mono exq) HOK.out (HGA.out.l.mono exq) (HGA.out.r.mono exq) (HGA.out.s.mono exq) HGA.out.len HGA.out.wf).mono ?_; rintro e w' ⟨rfl, X3, rfl⟩; rw [HF.out])
        go_roundw
        case rel => exact ⟨k + 1, by omega, by go_num, Lib.hid (by rw [take_snoc HI.out, List.all_append, HA.out]; simpa using HF.out), exq⟩
        case measure => simp [intOf]; omega
    · have hkn : k = gs.length := by omega
      have hA := HA.out
      rw [hkn, List.take_length] at hA
      have he : askErr ts gs = 0 := by unfold askErr; rw [HB.out, hA]; rfl
      have HE := Lib.hid he
      clear he
      clear hA hkn
      go_wp2_with fail
      go_ret2
      rw [HE.out]
      exact ⟨_, rfl, fun _ => ⟨trivial, hb, rfl, HH.out.mono exq⟩, exq⟩

theorem row_gear1 (w : World) (x : GearV) (n : Nat) (hn : n = w.heap.size) : IsRow gearC 8 (w.alloc (.cells (gearC x).toArray 38)) (.slice (some ⟨n, 0, none⟩) 1 1) [x] := by
  subst hn
  refine ⟨_, w.heap.size, 0, 1, rfl, by simp, fun _ => ⟨rfl, lays_new _ _⟩, fun i y hy j u hu => ?_⟩
  match i, hy with
  | 0, hy =>
    simp at hy; subst hy
    rw [World.cell?_alloc_new]
    simpa using hu

set_option maxHeartbeats 400000 in
theorem scale_Check_any (ts : List (Kr.Scale × Value)) (v : Value) (x : GearV) (w : World) (hrow : BayAt w v ts) (hg : GearAt w x) :
    Calls Tryz.prog 116 #[.agg #[v], .agg #[x.2.1, .int .i64 x.1.added, .int .i64 x.1.base, .int .i64 x.1.jitter, x.2.2.1, x.2.2.2, .int .i64 x.1.spread, .bool x.1.stamp]] w fun e w' => e = .returned (.int .i64 (check (ts.map Prod.fst) x.1)) ∧ w.Exts w' := by
  have he : check (ts.map Prod.fst) x.1 = askErr ts [x] := by unfold askErr check; simp
  rw [he]
  obtain ⟨q, cap, rfl⟩ := hrow.row.len
  have HBAY := Lib.hid hrow
  clear hrow
  have HG := Lib.hid hg
  clear hg
  clear he
  obtain ⟨g, lv, rv, sv⟩ := x
  have hl1 := HG.out.l
  have hl2 := HG.out.r
  have hl3 := HG.out.s
  dsimp only at hl1 hl2 hl3 ⊢
  obtain ⟨q1, cp1, rfl⟩ := hl1.len
  obtain ⟨q2, cp2, rfl⟩ := hl2.len
  obtain ⟨q3, cp3, rfl⟩ := hl3.len
  clear hl1 hl2 hl3
  go_enter Tryz.func116, Tryz.ntmps116
  go_wp2_with (go_at_call 61; refine (scale_asked_any ts _ [(g, _, _, _)] _ _ (HBAY.out.mono exq) (row_gear1 _ (g, _, _, _) _ (by simp)) (fun y hy => by rw [List.mem_singleton.1 hy]; exact HG.out.mono exq)).mono ?_; rintro e w' ⟨pp, rfl, -, X2, rfl⟩)
  go_ret
  exact ⟨rfl, exq⟩
end Go.Proofs.YtihkmkocgmkcjaaGreatDoor
