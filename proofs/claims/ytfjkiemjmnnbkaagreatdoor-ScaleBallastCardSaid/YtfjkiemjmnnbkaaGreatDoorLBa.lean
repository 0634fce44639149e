/-
  The law ScaleBallast: its walk.
-/
import Derived.Test.YtfjkiemjmnnbkaaGreatDoorAm
import Derived.Test.YtfjkiemjmnnbkaaGreatDoorRy
import Derived.Test.YtfjkiemjmnnbkaaGreatDoorBal
import Derived.Test.YtfjkiemjmnnbkaaGreatDoorHp
import Derived.Test.YtfjkiemjmnnbkaaGreatDoorJe
import Derived.Test.YtfjkiemjmnnbkaaGreatDoorTk
namespace Go.Proofs.YtfjkiemjmnnbkaaGreatDoor
open Go.RowKit Kr
set_option linter.unusedSimpArgs false

theorem judge_five {b : List Kr.Scale} {g : Gear} {n : Norm} (h : (judgeR b g n).2 = 0) : ∃ a0 a1 a2 a3 a4 : Int, (judgeR b g n).1.1 = [a0, a1, a2, a3, a4] := by
  unfold judgeR at h ⊢
  by_cases h1 : check b g ≠ 0
  · rw [if_pos h1] at h; exact absurd h h1
  rw [if_neg h1] at h ⊢
  by_cases h2 : normB n = false
  · rw [if_pos h2] at h; simp at h
  rw [if_neg h2] at h ⊢
  by_cases h3 : totals b g = []
  · rw [if_pos h3] at h; simp at h
  rw [if_neg h3] at h ⊢
  by_cases h4 : (hard g).2 ≠ 0
  · rw [if_pos h4] at h; exact absurd h h4
  rw [if_neg h4]
  exact ⟨_, _, _, _, _, rfl⟩

set_option maxRecDepth 4000 in
set_option maxHeartbeats 4000000 in
theorem l04_passes_any (ts : List (Kr.Scale × Value)) (v : Value) (g : Gear) (lv rv sv : Value) (n : Norm) (a : Int) (pg pb pn : Nat) (w : World) (hb : BayAt w v ts) (hg : GearAt w (g, lv, rv, sv)) (hcd : CondsAt w)
    (d0 : w.cell? ⟨pg, 0, none⟩ = some lv) (d1 : w.cell? ⟨pg, 1, none⟩ = some (.int .i64 g.added)) (d2 : w.cell? ⟨pg, 2, none⟩ = some (.int .i64 g.base)) (d3 : w.cell? ⟨pg, 3, none⟩ = some (.int .i64 g.jitter))
    (d4 : w.cell? ⟨pg, 4, none⟩ = some rv) (d5 : w.cell? ⟨pg, 5, none⟩ = some sv) (d6 : w.cell? ⟨pg, 6, none⟩ = some (.int .i64 g.spread)) (d7 : w.cell? ⟨pg, 7, none⟩ = some (.bool g.stamp))
    (e0 : w.cell? ⟨pb, 0, none⟩ = some v)
    (f0 : w.cell? ⟨pn, 0, none⟩ = some (.int .i64 n.total.lo)) (f1 : w.cell? ⟨pn, 1, none⟩ = some (.int .i64 n.total.hi)) (f2 : w.cell? ⟨pn, 2, none⟩ = some (.int .i64 n.added)) (f3 : w.cell? ⟨pn, 3, none⟩ = some (.int .i64 n.warm))
    (f4 : w.cell? ⟨pn, 4, none⟩ = some (.int .i64 n.hard.lo)) (f5 : w.cell? ⟨pn, 5, none⟩ = some (.int .i64 n.hard.hi)) (f6 : w.cell? ⟨pn, 6, none⟩ = some (.bool n.stamp)) :
    Calls Tryz.prog 51 #[.int .i64 a, .pointer (some ⟨pg, 0, none⟩), .pointer (some ⟨pb, 0, none⟩), .pointer (some ⟨pn, 0, none⟩)] w fun e w' => e = .returned (.bool (passR (ts.map Prod.fst) g n a)) ∧ w.Exts w' := by
  obtain ⟨q0, cp0, rfl⟩ := hb.row.len
  have hga : GearAt w ({ g with added := a }, lv, rv, sv) := ⟨hg.l, hg.r, hg.s, hg.len, hg.wf⟩
  obtain ⟨q1, cp1, rfl⟩ : ∃ p c, lv = .slice p g.loads.length c := hg.l.len
  obtain ⟨q2, cp2, rfl⟩ : ∃ p c, rv = .slice p g.runners.length c := hg.r.len
  obtain ⟨q3, cp3, rfl⟩ : ∃ p c, sv = .slice p g.strokes.length c := hg.s.len
  have hl1 := Lays.of_cell d0
  have hl2 := Lays.of_cell e0
  have hl3 := Lays.of_cell f0
  have hcon := fun (W : World) (hE : w.Exts W) => scale_Judge_any ts _ { g with added := a } _ _ _ n W (hb.mono hE) (hga.mono hE) (hcd.mono hE)
  have hpass : passR (ts.map Prod.fst) g n a = ((judgeR (ts.map Prod.fst) { g with added := a } n).2 == 0 && ((judgeR (ts.map Prod.fst) { g with added := a } n).1.1.getD 0 0 == 2 && (judgeR (ts.map Prod.fst) { g with added := a } n).1.1.getD 1 0 == 2)) := rfl
  rw [hpass]
  clear hpass hb hg hga hcd
  have h5 := judge_five (b := ts.map Prod.fst) (g := { g with added := a }) (n := n)
  generalize judgeR (ts.map Prod.fst) { g with added := a } n = J at hcon h5
  obtain ⟨⟨ps, wh⟩, er⟩ := J
  dsimp only at hcon h5 ⊢
  have HCON := Lib.hid hcon
  clear hcon
  by_cases he : er = 0
  · subst he
    obtain ⟨a0, a1, a2, a3, a4, rfl⟩ := h5 rfl
    clear h5
    have hr : ((0 : Int) == 0 && (([a0, a1, a2, a3, a4] : List Int).getD 0 0 == 2 && ([a0, a1, a2, a3, a4] : List Int).getD 1 0 == 2)) = (decide (a0 = 2) && decide (a1 = 2)) := by
      show ((a0 == 2) && (a1 == 2)) = _
      rw [Bool.eq_iff_iff]; simp
    rw [hr]
    by_cases h0 : a0 = 2
    all_goals
      have hb0 : (a0 == 2) = decide (a0 = 2) := by simp [h0]
      simp only [h0, decide_true, decide_false] at hb0
      have H0 := Lib.hid h0
      clear h0
      clear hr
      go_enter Tryz.func51, Tryz.ntmps51
      go_wp2_with (go_at_call 32; refine (HCON.out _ exq).mono ?_; rintro e w' ⟨vp, rfl, hv, X, rfl⟩; obtain ⟨p9, b9, o9, c9, rfl, hm9, hp9, hc9⟩ := hv.ex; (obtain ⟨rfl, hl9⟩ := hp9 (by simp)); (have k0 := hc9 0 _ rfl 0 _ rfl); (have k1 := hc9 1 _ rfl 0 _ rfl); simp only [Nat.zero_mul, Nat.one_mul, Nat.add_zero] at k0 k1; clear hp9 hc9 hv)
      go_ret
      exact ⟨congrArg Ending.returned (congrArg Value.bool (by rw [Bool.eq_iff_iff]; simp [H0.out])), exq⟩
  · have hez : (er == 0) = false := by simp [he]
    rw [hez, Bool.false_and]
    have HE := Lib.hid he
    clear he
    clear h5
    go_enter Tryz.func51, Tryz.ntmps51
    go_wp2_with (go_at_call 32; refine (HCON.out _ exq).mono ?_; rintro e w' ⟨vp, rfl, hv, X, rfl⟩; obtain ⟨qp, cp, rfl⟩ := hv.len)
    go_ret
    exact ⟨rfl, exq⟩

/-- Nine stores into a box. -/
def putBare (W : World) (p : Nat) (g : Gear) (l r s : Value) : World :=
  (((((((((W.setCell ⟨p, 0, none⟩ l).setCell ⟨p, 1, none⟩ (.int .i64 g.added)).setCell ⟨p, 2, none⟩ (.int .i64 g.base)).setCell ⟨p, 3, none⟩ (.int .i64 g.jitter)).setCell ⟨p, 4, none⟩ r).setCell ⟨p, 5, none⟩ s).setCell ⟨p, 6, none⟩ (.int .i64 g.spread)).setCell ⟨p, 7, none⟩ (.bool g.stamp)).setCell ⟨p, 5, none⟩ (.slice none 0 0))
theorem rowOff_bare {α : Type} {enc : α → List Value} {k : Nat} {W : World} {v : Value} {xs : List α} {p : Nat} (h : RowOff enc k W [p] v xs) (g : Gear) (l r s : Value) : IsRow enc k (putBare W p g l r s) v xs := by
  unfold putBare
  refine RowOff.row (G := [p]) ?_
  iterate 9 refine RowOff.set ?_ (by simp) _
  exact h
theorem weighN_take (pieces : List Int) (L : List Nat) {k x : Nat} (hx : L[k]? = some x) : weighN pieces (L.take (k + 1)) = weighN pieces (L.take k) + pieces.getD x 0 := by
  rw [take_snoc hx, weighN_snoc]
theorem bit8_at : ∀ s : Fin 256, ∀ k : Fin 8, bits .and .u8 ((s.1 : Int) / 2 ^ k.1) 1 = if s.1.testBit k.1 then 1 else 0 := by decide +kernel
theorem inAll_get {pieces : List Int} (h : inAll 0 1000000 pieces = true) (k : Nat) : 0 ≤ pieces.getD k 0 ∧ pieces.getD k 0 ≤ 1000000 := by
  rw [List.getD_eq_getElem?_getD]
  cases hq : pieces[k]? with
  | none => simp
  | some x =>
    have := List.all_eq_true.1 h x (List.mem_of_getElem? hq)
    simp [inb] at this
    simpa using this

set_option maxRecDepth 100000 in
set_option maxHeartbeats 8000000 in
theorem l04b_any (ts : List (Kr.Scale × Value)) (v : Value) (g : Gear) (lv rv sv : Value) (n : Norm) (pieces : List Int) (pv : Value) (others : Nat) (w : World) (hrow : BayAt w v ts)
    (hl : IsRow (fun t : Kr.Load => [.int .i64 t.scale, .int .i64 t.shown]) 2 w lv g.loads) (hr : IsRow (fun x : Int => [.int .i64 x]) 1 w rv g.runners) (hs : IsRow (fun x : Int => [.int .i64 x]) 1 w sv g.strokes) (hwf : ∀ l ∈ g.loads, (Lit.int .i64 l.scale).wf = true) (hcd : CondsAt w) (hp : IsRow (fun x : Int => [.int .i64 x]) 1 w pv pieces) (ho : others < 256) :
    Calls Tryz.prog 13 #[.agg #[v], .agg #[lv, .int .i64 g.added, .int .i64 g.base, .int .i64 g.jitter, rv, sv, .int .i64 g.spread, .bool g.stamp], .agg #[.int .i64 n.total.lo, .int .i64 n.total.hi, .int .i64 n.added, .int .i64 n.warm, .int .i64 n.hard.lo, .int .i64 n.hard.hi, .bool n.stamp], pv, .int .u8 (others : Int)] w fun e w' => e = .returned (.bool true) ∧ w.Exts w' := by
  obtain ⟨q0, cp0, rfl⟩ := hrow.row.len
  obtain ⟨q1, cp1, rfl⟩ := hl.len
  obtain ⟨q2, cp2, rfl⟩ := hr.len
  obtain ⟨q3, cp3, rfl⟩ := hs.len
  have HB := Lib.hid hrow
  clear hrow
  have HL := Lib.hid hl
  clear hl
  have HR := Lib.hid hr
  clear hr
  have HS := Lib.hid hs
  clear hs
  have HWF := Lib.hid hwf
  clear hwf
  have HCD := Lib.hid hcd
  clear hcd
  obtain ⟨qp, bp, op, cp, rfl, hmp, hpp, hcp⟩ := hp.ex
  have HP := Lib.hid hp
  clear hp
  have HPP := Lib.hid hpp
  clear hpp
  have HCP := Lib.hid hcp
  clear hcp
  cases hrd : readyB ts g
  case false =>
    as_aux_lemma =>
    have HRD := Lib.hid hrd
    clear hrd
    go_enter Tryz.func13, Tryz.ntmps13
    go_wp2_with (first
      | (go_at_call 21; refine (l04_alive_any _ (HCD.out.mono exq)).mono ?_; rintro e w' ⟨rfl, X0, rfl⟩)
      | (go_at_call 22; refine (l04_ready_any ts _ g _ _ _ _ (HB.out.mono exq) (HL.out.mono exq) (HR.out.mono exq) (HS.out.mono exq)).mono ?_; rintro e w' ⟨rfl, X1, rfl⟩; rw [HRD.out]))
    go_ret
    exact ⟨rfl, exq⟩
  obtain ⟨hgr, hck⟩ := ready_parts hrd
  have hgn := great_not hgr
  have hga : GearAt w (g, .slice q1 g.loads.length cp1, .slice q2 g.runners.length cp2, .slice q3 g.strokes.length cp3) := ⟨HL.out, HR.out, HS.out, by dsimp only; omega, HWF.out⟩
  obtain ⟨hg1, hg2, hg3, hg4, hg5⟩ := hgn
  have HRD := Lib.hid hrd
  clear hrd
  have HGA := Lib.hid hga
  clear hga
  clear hgr hg2
  cases hn : normB n
  case false =>
    as_aux_lemma =>
    have HN := Lib.hid hn
    clear hn
    clear hck
    go_enter Tryz.func13, Tryz.ntmps13
    go_wp2_with (first
      | (go_at_call 21; refine (l04_alive_any _ (HCD.out.mono exq)).mono ?_; rintro e w' ⟨rfl, X0, rfl⟩)
      | (go_at_call 22; refine (l04_ready_any ts _ g _ _ _ _ (HB.out.mono exq) (HL.out.mono exq) (HR.out.mono exq) (HS.out.mono exq)).mono ?_; rintro e w' ⟨rfl, X1, rfl⟩; rw [HRD.out])
      | (go_at_call 23; refine (r04_Norm_any n _).mono ?_; rintro e w' ⟨rfl, X2, rfl⟩; rw [HN.out]))
    go_ret
    exact ⟨rfl, exq⟩
  rcases Nat.lt_or_ge 8 pieces.length with h8 | h8
  · --[C
    as_aux_lemma =>
    have HN := Lib.hid hn
    clear hn
    clear hck
    go_enter Tryz.func13, Tryz.ntmps13
    go_wp2_with (first
      | (go_at_call 21; refine (l04_alive_any _ (HCD.out.mono exq)).mono ?_; rintro e w' ⟨rfl, X0, rfl⟩)
      | (go_at_call 22; refine (l04_ready_any ts _ g _ _ _ _ (HB.out.mono exq) (HL.out.mono exq) (HR.out.mono exq) (HS.out.mono exq)).mono ?_; rintro e w' ⟨rfl, X1, rfl⟩; rw [HRD.out])
      | (go_at_call 23; refine (r04_Norm_any n _).mono ?_; rintro e w' ⟨rfl, X2, rfl⟩; rw [HN.out]))
    go_ret
    exact ⟨rfl, exq⟩
  have hlaw := fun hp => ballast_law (b := ts.map Prod.fst) (g := { g with strokes := [] }) (n := n) (pieces := pieces) (check_bare hck) rfl hn hp h8 others
  have HN := Lib.hid hn
  clear hn
  have HLAW := Lib.hid hlaw
  clear hlaw
  clear hck
  go_enter Tryz.func13, Tryz.ntmps13
  go_wp2_with (first
    | (go_at_call 21; refine (l04_alive_any _ (HCD.out.mono exq)).mono ?_; rintro e w' ⟨rfl, X0, rfl⟩)
    | (go_at_call 22; refine (l04_ready_any ts _ g _ _ _ _ (HB.out.mono exq) (HL.out.mono exq) (HR.out.mono exq) (HS.out.mono exq)).mono ?_; rintro e w' ⟨rfl, X1, rfl⟩; rw [HRD.out])
    | (go_at_call 23; refine (r04_Norm_any n _).mono ?_; rintro e w' ⟨rfl, X2, rfl⟩; rw [HN.out]))
  go_loopw [46] (fun i wr => ∃ k : Nat, k ≤ pieces.length ∧ i = .int .i64 k ∧ Hid (inAll 0 1000000 (pieces.take k) = true) ∧ (World.ext _ X2).Exts wr) (fun i _ => pieces.length - (intOf i).toNat)
  case atStart => exact ⟨0, Nat.zero_le _, rfl, Lib.hid rfl, exq⟩
  case round =>
    obtain ⟨k, hk, rfl, HA, hE⟩ := hrel
    obtain ⟨X3, rfl⟩ := hE
    by_cases hlt : k < pieces.length
    · obtain ⟨rfl, hlay⟩ := HPP.out (by omega)
      obtain ⟨x, hx⟩ := some_of_lt hlt
      have hcs := HCP.out k x hx
      have c0 := hcs 0 _ rfl
      simp only [Nat.mul_one, Nat.add_zero] at c0
      have HX := Lib.hid hx
      clear hx
      clear hcs
      rcases Int.lt_or_le x 0 with h1 | h1
      · go_wp2_with fail
        go_ret
        exact ⟨rfl, exq⟩
      · rcases Int.lt_or_le 1000000 x with h2 | h2
        · go_wp2_with fail
          go_ret
          exact ⟨rfl, exq⟩
        · go_wp2_with fail
          go_roundw
          case rel => exact ⟨k + 1, by omega, by go_num, Lib.hid (by unfold inAll at *; rw [take_snoc HX.out, List.all_append, HA.out]; simp [inb]; omega), exq⟩
          case measure => simp [intOf]; omega
    · have hkn : k = pieces.length := by omega
      have hA := HA.out
      rw [hkn, List.take_length] at hA
      clear HA
      have hlaw := HLAW.out hA
      have HIN := Lib.hid hA
      clear hA
      have HLW := Lib.hid hlaw
      clear hlaw
      go_upto_region 14 with (go_at_call 46; refine (r04_TwinGear_new g _ _ _ _ (HGA.out.mono exq) (by omega) (by omega) (by omega)).mono ?_; rintro e w' ⟨l', r', s', rfl, hg9, hE9, ho9⟩; (obtain ⟨ql, cl, e1⟩ : ∃ p c, l' = .slice p g.loads.length c := hg9.l.len); (obtain ⟨qr, cr, e2⟩ : ∃ p c, r' = .slice p g.runners.length c := hg9.r.len); (obtain ⟨qs, cs, e3⟩ : ∃ p c, s' = .slice p g.strokes.length c := hg9.s.len); subst e1 e2 e3; (have HG9 := Lib.hid hg9); (have HO9 := Lib.hid ho9); clear hg9 ho9; obtain ⟨X4, rfl⟩ := hE9)
      obtain ⟨b1, b2, b3, hb1, hb2, hb3, o1, o2, o3, -, -⟩ := HO9.out
      have z0 := World.size_ext_le _ X0
      have z1 := World.size_ext_le _ X1
      have z2 := World.size_ext_le _ X2
      have z3 := World.size_ext_le _ X3
      have z4 := World.size_ext_le _ X4
      simp only [World.size_alloc] at z0 z1 z2 z3 z4
      obtain ⟨V, hV⟩ : ∃ V, putBare (World.ext _ X4) (w.heap.size + 1) g (.slice ql g.loads.length cl) (.slice qr g.runners.length cr) (.slice qs g.strokes.length cs) = V := ⟨_, rfl⟩
      have hG2 : GearAt V ({ g with strokes := [] }, .slice ql g.loads.length cl, .slice qr g.runners.length cr, .slice none 0 0) := by
        rw [← hV]
        exact ⟨rowOff_bare (RowOff.own o1 (fun _ _ => rfl) (by simp; omega)) g _ _ _, rowOff_bare (RowOff.own o2 (fun _ _ => rfl) (by simp; omega)) g _ _ _, IsRow.nil _, by dsimp only; simp; omega, HWF.out⟩
      have hEV : w.Exts V := by
        rw [← hV]
        unfold putBare
        iterate 9 refine World.Exts.setCell ?_ (by dsimp only; omega) _
        exact exq
      have d0 : V.cell? ⟨w.heap.size + 1, 0, none⟩ = some (.slice ql g.loads.length cl) := by rw [← hV]; simp [putBare, go_sem]
      have d1 : V.cell? ⟨w.heap.size + 1, 1, none⟩ = some (.int .i64 g.added) := by rw [← hV]; simp [putBare, go_sem]
      have d2 : V.cell? ⟨w.heap.size + 1, 2, none⟩ = some (.int .i64 g.base) := by rw [← hV]; simp [putBare, go_sem]
      have d3 : V.cell? ⟨w.heap.size + 1, 3, none⟩ = some (.int .i64 g.jitter) := by rw [← hV]; simp [putBare, go_sem]
      have d4 : V.cell? ⟨w.heap.size + 1, 4, none⟩ = some (.slice qr g.runners.length cr) := by rw [← hV]; simp [putBare, go_sem]
      have d5 : V.cell? ⟨w.heap.size + 1, 5, none⟩ = some (.slice none 0 0) := by rw [← hV]; unfold putBare; refine World.cell?_setCell_same' _ _ _ ?_; simp [go_sem]
      have d6 : V.cell? ⟨w.heap.size + 1, 6, none⟩ = some (.int .i64 g.spread) := by rw [← hV]; simp [putBare, go_sem]
      have d7 : V.cell? ⟨w.heap.size + 1, 7, none⟩ = some (.bool g.stamp) := by rw [← hV]; simp [putBare, go_sem]
      have e0 : V.cell? ⟨w.heap.size, 0, none⟩ = some (.slice q0 ts.length cp0) := by rw [← hV]; simp [putBare, go_sem]
      have f0 : V.cell? ⟨w.heap.size + 1 + 1, 0, none⟩ = some (.int .i64 n.total.lo) := by rw [← hV]; simp [putBare, go_sem]
      have f1 : V.cell? ⟨w.heap.size + 1 + 1, 1, none⟩ = some (.int .i64 n.total.hi) := by rw [← hV]; simp [putBare, go_sem]
      have f2 : V.cell? ⟨w.heap.size + 1 + 1, 2, none⟩ = some (.int .i64 n.added) := by rw [← hV]; simp [putBare, go_sem]
      have f3 : V.cell? ⟨w.heap.size + 1 + 1, 3, none⟩ = some (.int .i64 n.warm) := by rw [← hV]; simp [putBare, go_sem]
      have f4 : V.cell? ⟨w.heap.size + 1 + 1, 4, none⟩ = some (.int .i64 n.hard.lo) := by rw [← hV]; simp [putBare, go_sem]
      have f5 : V.cell? ⟨w.heap.size + 1 + 1, 5, none⟩ = some (.int .i64 n.hard.hi) := by rw [← hV]; simp [putBare, go_sem]
      have f6 : V.cell? ⟨w.heap.size + 1 + 1, 6, none⟩ = some (.bool n.stamp) := by rw [← hV]; simp [putBare, go_sem]
      have hpass := fun (W : World) (hE : V.Exts W) (a : Int) => l04_passes_any ts _ { g with strokes := [] } _ _ _ n a (w.heap.size + 1) w.heap.size (w.heap.size + 1 + 1) W (HB.out.mono (hEV.trans hE)) (hG2.mono hE) (HCD.out.mono (hEV.trans hE))
        (hE.cell d0) (hE.cell d1) (hE.cell d2) (hE.cell d3) (hE.cell d4) (hE.cell d5) (hE.cell d6) (hE.cell d7) (hE.cell e0) (hE.cell f0) (hE.cell f1) (hE.cell f2) (hE.cell f3) (hE.cell f4) (hE.cell f5) (hE.cell f6)
      have hbal := fun (W : World) (hE : V.Exts W) => scale_Ballast_any ts _ { g with strokes := [] } _ _ _ n pieces _ W (HB.out.mono (hEV.trans hE)) (hG2.mono hE) (HP.out.mono (hEV.trans hE))
      have hlaw := HLW.out
      generalize ballastR (ts.map Prod.fst) { g with strokes := [] } n pieces = R at hbal hlaw
      obtain ⟨L, er⟩ := R
      dsimp only at hbal hlaw
      have hK : ∃ K, L = membersN K pieces.length := by
        rcases hlaw with ⟨⟨rfl, -⟩, -⟩ | ⟨-, h, -⟩
        · exact ⟨0, by unfold membersN; rw [List.filter_eq_nil_iff.2]; intro i _; simp⟩
        · exact h
      have n1 := Lays.of_cell d0
      have n2 := Lays.of_cell e0
      have n3 := Lays.of_cell f0
      unfold putBare at hV
      rw [hV]
      clear hV z0 z1 z2 z3 z4 hb1 hb2 hb3 o1 o2 o3 HO9 HG9 HLW HLAW hG2 b1 b2 b3
      have HPASS := Lib.hid hpass
      clear hpass
      have HBAL := Lib.hid hbal
      clear hbal
      have HLW := Lib.hid hlaw
      clear hlaw
      obtain ⟨K, rfl⟩ := hK
      have hinc := membersN_inc K pieces.length
      have hmem : ∀ x ∈ membersN K pieces.length, x < pieces.length := fun x hx => membersN_lt hx
      have hln : (membersN K pieces.length).length ≤ 8 := Nat.le_trans (membersN_len K pieces.length) h8
      have hwb := weighN_bd HIN.out
      generalize membersN K pieces.length = L at *
      have HINC := Lib.hid hinc
      clear hinc
      have HMEM := Lib.hid hmem
      clear hmem
      have HWB := Lib.hid hwb
      clear hwb
      go_wp2_with (go_at_call 52; refine (HBAL.out _ exq).mono ?_; rintro e w' ⟨vb, rfl, hvb, X5, rfl⟩; obtain ⟨qb, bb, ob, cb, rfl, hmb, hpb, hcb⟩ := hvb.ex; (have HPB := Lib.hid hpb); (have HCB := Lib.hid hcb); clear hpb hcb hvb)
      go_loopw [17, 72] (fun s i wr => ∃ k : Nat, k ≤ L.length ∧ i = .int .i64 k ∧ s = .int .i64 (weighN pieces (L.take k)) ∧ (World.ext V X5).Exts wr) (fun _ i _ => L.length - (intOf i).toNat)
      case atStart => exact ⟨0, Nat.zero_le _, rfl, rfl, exq⟩
      case round =>
        obtain ⟨k2, hk2, rfl, rfl, hE⟩ := hrel
        obtain ⟨X6, rfl⟩ := hE
        by_cases hlt2 : k2 < L.length
        · --[L2
          as_aux_lemma =>
          obtain ⟨rfl, hlb⟩ := HPB.out (by omega)
          obtain ⟨x, hx⟩ := some_of_lt hlt2
          have c0 := HCB.out k2 x hx 0 _ rfl
          simp only [Nat.mul_one, Nat.add_zero] at c0
          have hxp := HMEM.out x (List.mem_of_getElem? hx)
          obtain ⟨rfl, hlp⟩ := HPP.out (by omega)
          obtain ⟨y, hy⟩ := some_of_lt hxp
          have p0 := hEV.cell (HCP.out x y hy 0 _ rfl)
          simp only [Nat.mul_one, Nat.add_zero] at p0
          have hlp2 := Lays.of_cell p0
          have hnx := weighN_take pieces L hx
          rw [show pieces.getD x 0 = y by rw [List.getD_eq_getElem?_getD, hy]; rfl] at hnx
          have hw0 := HWB.out (L.take k2)
          have hw1 : (L.take k2).length ≤ 8 := by rw [List.length_take]; omega
          have hyb := inAll_get HIN.out x
          rw [show pieces.getD x 0 = y by rw [List.getD_eq_getElem?_getD, hy]; rfl] at hyb
          generalize weighN pieces (L.take k2) = s9 at *
          have HNX := Lib.hid hnx
          clear hnx
          rcases Nat.lt_or_ge 0 k2 with h0 | h0
          · obtain ⟨k3, rfl⟩ : ∃ k3, k2 = k3 + 1 := ⟨k2 - 1, by omega⟩
            obtain ⟨z, hz⟩ := some_of_lt (xs := L) (k := k3) (by omega)
            have c1 := HCB.out k3 z hz 0 _ rfl
            simp only [Nat.mul_one, Nat.add_zero] at c1
            have hzx := inc_at HINC.out hz hx
            clear hx hy hz
            go_wp2_with fail
            go_roundw
            case rel => exact ⟨k3 + 1 + 1, by omega, by go_num, by rw [HNX.out], exq⟩
            case measure => simp [intOf]; omega
          · clear hx hy
            go_wp2_with fail
            go_roundw
            case rel => exact ⟨k2 + 1, by omega, by go_num, by rw [HNX.out], exq⟩
            case measure => simp [intOf]; omega
        · have hkn2 : k2 = L.length := by omega
          rw [hkn2, List.take_length]
          clear hkn2
          have hsb := HWB.out L
          go_wp2_with fail
          go_loopw [20, 21, 107] (fun l s i wr => ∃ k : Nat, k ≤ pieces.length ∧ i = .int .i64 k ∧ s = .int .i64 (weighN pieces (membersN others k)) ∧ Hid (wr.ownsRow (World.ext _ X6).heap.size 3 1 l (membersN others k).length (natCs (membersN others k))) ∧ (World.ext _ X6).Exts wr) (fun _ _ i _ => pieces.length - (intOf i).toNat)
          case atStart => exact ⟨0, Nat.zero_le _, rfl, rfl, Lib.hid (World.ownsRow_nil _ _ _ _), exq⟩
          case round =>
            obtain ⟨k3, hk3, rfl, rfl, HO, hE⟩ := hrel
            obtain ⟨X7, rfl⟩ := hE
            by_cases hlt3 : k3 < pieces.length
            · --[L3
              as_aux_lemma =>
              obtain ⟨rfl, hlp⟩ := HPP.out (by omega)
              obtain ⟨y, hy⟩ := some_of_lt hlt3
              have p0 := hEV.cell (HCP.out k3 y hy 0 _ rfl)
              simp only [Nat.mul_one, Nat.add_zero] at p0
              have hlp2 := Lays.of_cell p0
              have hyb := inAll_get HIN.out k3
              rw [show pieces.getD k3 0 = y by rw [List.getD_eq_getElem?_getD, hy]; rfl] at hyb
              have hw0 := HWB.out (membersN others k3)
              have hw1 := membersN_len others k3
              have hnx := membersN_succ others k3
              have hwn := weighN_snoc pieces (membersN others k3) k3
              rw [show pieces.getD k3 0 = y by rw [List.getD_eq_getElem?_getD, hy]; rfl] at hwn
              have hbit := bit8_at ⟨others, ho⟩ ⟨k3, by omega⟩
              dsimp only at hbit
              generalize membersN others k3 = M at *
              clear hy
              cases hbt : others.testBit k3
              · rw [hbt] at hnx hbit
                simp only [Bool.false_eq_true, if_false] at hbit hnx
                rw [List.append_nil] at hnx
                have HNX := Lib.hid hnx
                clear hnx
                clear hbt hwn
                obtain ⟨s9, hs9⟩ : ∃ s9, s9 = weighN pieces M := ⟨_, rfl⟩
                rw [← hs9] at hw0 ⊢
                have HS9 := Lib.hid hs9
                clear hs9
                go_wp2_with fail
                go_roundw
                case rel => exact ⟨k3 + 1, by omega, by go_num, by rw [HNX.out, ← HS9.out], Lib.hid (by rw [HNX.out]; exact HO.out), exq⟩
                case measure => simp [intOf]; omega
              · rw [hbt] at hnx hbit
                simp only [if_true] at hbit hnx
                rw [← hnx] at hwn
                have HNX := Lib.hid hnx
                clear hnx
                have HWN := Lib.hid hwn
                clear hwn
                clear hbt
                go_wp2_with (at_builtin; refine wpList_append1W (.tmp 117) (.tmp 119) elem_intN rfl rfl rfl (ownsRow_exts HO.out exq) [.int .i64 (k3 : Int)] _ (by simp) rfl rfl ?h1 ?h2 ?h4 ?h3 ?_)
                case h1 => first | (intro u hu; simp at hu; subst hu; rfl) | rfl
                case h2 => omega
                try (case h4 => decide)
                case h3 => exact World.Exts.size exq
                intro v' w' hown' happ
                have hE8 := happ.exts (World.ext _ X6) exq (Nat.le_refl _)
                obtain ⟨X8, rfl⟩ := hE8
                have HO3 := Lib.hid hown'
                clear hown'
                clear happ
                go_wp2_with fail
                go_roundw
                case rel => exact ⟨k3 + 1, by omega, by go_num, by rw [HWN.out], Lib.hid (by rw [HNX.out, natCs_snoc, List.length_append]; exact HO3.out), exq⟩
                case measure => simp [intOf]; omega
            · have hkn3 : k3 = pieces.length := by omega
              have hO := HO.out
              rw [hkn3] at hO ⊢
              clear hkn3 HO
              have hrw2 := row_nats hO
              have hhb := HWB.out (membersN others pieces.length)
              have hln2 : (membersN others pieces.length).length ≤ 8 := Nat.le_trans (membersN_len others pieces.length) h8
              have hcan : canR (ts.map Prod.fst) { g with strokes := [] } n pieces others = (decide (weighN pieces (membersN others pieces.length) ≤ 1000000) && passR (ts.map Prod.fst) { g with strokes := [] } n (weighN pieces (membersN others pieces.length))) := rfl
              have hch : choiceOf pieces others = ⟨weighN pieces (membersN others pieces.length), membersN others pieces.length⟩ := rfl
              have hlaw := HLW.out
              rw [hcan, hch] at hlaw
              clear hcan hch HLW HBAL
              generalize weighN pieces (membersN others pieces.length) = H at *
              generalize membersN others pieces.length = L2 at *
              generalize weighN pieces L = S at *
              obtain ⟨q2', b2', o2', c2', e2', hm2', hp2', hc2'⟩ := hrw2.ex
              subst e2'
              have HP2 := Lib.hid hp2'
              clear hp2'
              have HC2 := Lib.hid hc2'
              clear hc2'
              clear hO hrw2
              rcases hlaw with ⟨⟨hL0, her⟩, hcan⟩ | ⟨her, -, ⟨hS, hps⟩, hbest⟩
              · subst hL0
                have hpc : H ≤ 1000000 → passR (ts.map Prod.fst) { g with strokes := [] } n H = false := fun h => by simpa [h] using hcan
                have HPC := Lib.hid hpc
                clear hpc
                clear hcan
                rcases her with rfl | rfl <;> rcases Int.lt_or_le 1000000 H with hH | hH
                all_goals
                  first
                  | (have hpf := HPC.out hH
                     have HPF := Lib.hid hpf
                     clear hpf
                     go_wp2_with (go_at_call 51; refine (HPASS.out _ exq H).mono ?_; rintro e w' ⟨rfl, X9, rfl⟩; rw [HPF.out])
                     go_ret
                     exact ⟨rfl, (exf hEV)⟩)
                  | (go_wp2_with fail
                     go_ret
                     exact ⟨rfl, (exf hEV)⟩)
              · subst her
                have HPS := Lib.hid hps
                clear hps
                rcases Int.lt_or_le 1000000 H with hH | hH
                · --[E1
                  as_aux_lemma =>
                  clear hbest
                  go_wp2_with (go_at_call 51; ((with_reducible refine (HPASS.out _ ?es S).mono ?_); (case es => exact exq); rintro e w' ⟨rfl, X10, rfl⟩; rw [HPS.out]))
                  go_ret
                  exact ⟨rfl, (exf hEV)⟩
                · cases hpf : passR (ts.map Prod.fst) { g with strokes := [] } n H
                  · --[E2
                    as_aux_lemma =>
                    have HPF := Lib.hid hpf
                    clear hpf
                    clear hbest
                    go_wp2_with (first
                      | (go_at_call 51; ((with_reducible refine (HPASS.out _ ?eh H).mono ?_); (case eh => exact exq); rintro e w' ⟨rfl, X9, rfl⟩; rw [HPF.out]))
                      | (go_at_call 51; ((with_reducible refine (HPASS.out _ ?es S).mono ?_); (case es => exact exq); rintro e w' ⟨rfl, X10, rfl⟩; rw [HPS.out])))
                    go_ret
                    exact ⟨rfl, (exf hEV)⟩
                  · have hb := hbest (by simp [hH, hpf])
                    have HPF := Lib.hid hpf
                    clear hpf
                    clear hbest
                    by_cases hHS : H = S
                    · have hb2 : beforeB L2 L = false := by
                        unfold lessC at hb
                        rw [if_neg (by simp [hHS])] at hb
                        exact hb
                      clear hb
                      subst hHS
                      by_cases hll : L2.length = L.length
                      · have hlx : lexB L2 L = false := by
                          unfold beforeB at hb2
                          rw [if_neg (by simp [hll])] at hb2
                          exact hb2
                        clear hb2
                        have hle : ((L.length : Int) != (L2.length : Int)) = false := by simp [hll]
                        have hlen9 : L2.length = L.length := hll
                        have HLL := Lib.hid hll
                        clear hll
                        have HLX := Lib.hid hlx
                        clear hlx
                        as_aux_lemma =>
                        clear hlen9
                        go_wp2_with (first
                          | (go_at_call 51; refine (HPASS.out _ exq H).mono ?_; rintro e w' ⟨rfl, X9, rfl⟩; rw [HPF.out]))
                        go_loopw [196] (fun i wr => ∃ k : Nat, k ≤ L.length ∧ i = .int .i64 k ∧ Hid (∀ j < k, L[j]? = L2[j]?) ∧ (World.ext _ X9).Exts wr) (fun i _ => L.length - (intOf i).toNat)
                        case atStart => exact ⟨0, Nat.zero_le _, rfl, Lib.hid (fun j hj => by omega), exq⟩
                        case round =>
                          obtain ⟨k4, hk4, rfl, HJ, hE⟩ := hrel
                          obtain ⟨X11, rfl⟩ := hE
                          by_cases hlt4 : k4 < L.length
                          · obtain ⟨rfl, hlb⟩ := HPB.out (by omega)
                            obtain ⟨rfl, hl2⟩ := HP2.out (by rw [HLL.out]; omega)
                            obtain ⟨x, hx⟩ := some_of_lt hlt4
                            obtain ⟨y, hy⟩ := some_of_lt (xs := L2) (k := k4) (by rw [HLL.out]; exact hlt4)
                            have c0 := HCB.out k4 x hx 0 _ rfl
                            have c1 := HC2.out k4 y hy 0 _ rfl
                            simp only [Nat.mul_one, Nat.add_zero] at c0 c1
                            have hlt5 : k4 < L2.length := by rw [HLL.out]; exact hlt4
                            by_cases hxy : x = y
                            · have hne : ((x : Int) != (y : Int)) = false := by simp [hxy]
                              have HXY := Lib.hid hxy
                              clear hxy
                              have HX := Lib.hid hx
                              clear hx
                              have HY := Lib.hid hy
                              clear hy
                              go_wp2_with fail
                              refine wp_region_ext (by kernel_rfl) (by kernel_rfl) ?_
                              repeat (go_big_quiet_step (fail))
                              refine wpQuiet_nil ?_
                              rintro _ ⟨X, rfl⟩
                              go_wp2_with fail
                              go_roundw
                              case rel => exact ⟨k4 + 1, by omega, by go_num, Lib.hid (fun j hj => by rcases Nat.lt_or_ge j k4 with h | h; exact HJ.out j h; rw [show j = k4 by omega, HX.out, HY.out, HXY.out]), exq⟩
                              case measure => simp [intOf]; omega
                            · have hne : ((x : Int) != (y : Int)) = true := by simp; omega
                              have hxl := lexB_first HLL.out.symm HLX.out k4 x y hx hy HJ.out hxy
                              clear hxy hx hy
                              go_wp2_with fail
                              refine wp_region_ext (by kernel_rfl) (by kernel_rfl) ?_
                              repeat (go_big_quiet_step (fail))
                              refine wpQuiet_nil ?_
                              rintro _ ⟨X, rfl⟩
                              go_wp2_with fail
                              refine wp_region_ext (by kernel_rfl) (by kernel_rfl) ?_
                              repeat (go_big_quiet_step (fail))
                              refine wpQuiet_nil ?_
                              rintro _ ⟨X, rfl⟩
                              go_wp2_with fail
                              go_ret
                              exact ⟨rfl, (exf hEV)⟩
                          · go_wp2_with fail
                            go_ret
                            exact ⟨rfl, (exf hEV)⟩
                      · have hlt9 : L.length < L2.length := by
                          unfold beforeB at hb2
                          rw [if_pos hll] at hb2
                          simp at hb2
                          omega
                        have hle : ((L.length : Int) != (L2.length : Int)) = true := by simp; omega
                        clear hb2 hll
                        as_aux_lemma =>
                        go_wp2_with (first
                          | (go_at_call 51; refine (HPASS.out _ exq H).mono ?_; rintro e w' ⟨rfl, X9, rfl⟩; rw [HPF.out]))
                        go_ret
                        exact ⟨rfl, (exf hEV)⟩
                    · have hSH : S < H := by
                        unfold lessC at hb
                        rw [if_pos hHS] at hb
                        simp at hb
                        omega
                      have hne : (H != S) = true := by simp; omega
                      clear hb hHS
                      as_aux_lemma =>
                      go_wp2_with (first
                        | (go_at_call 51; ((with_reducible refine (HPASS.out _ ?eh H).mono ?_); (case eh => exact exq); rintro e w' ⟨rfl, X9, rfl⟩; rw [HPF.out]))
                        | (go_at_call 51; ((with_reducible refine (HPASS.out _ ?es S).mono ?_); (case es => exact exq); rintro e w' ⟨rfl, X10, rfl⟩; rw [HPS.out])))
                      go_ret
                      exact ⟨rfl, (exf hEV)⟩

theorem l04b_int (ts : List (Kr.Scale × Value)) (v : Value) (g : Gear) (lv rv sv : Value) (n : Norm) (pieces : List Int) (pv : Value) (others : Int) (w : World) (hrow : BayAt w v ts)
    (hl : IsRow (fun t : Kr.Load => [.int .i64 t.scale, .int .i64 t.shown]) 2 w lv g.loads) (hr : IsRow (fun x : Int => [.int .i64 x]) 1 w rv g.runners) (hs : IsRow (fun x : Int => [.int .i64 x]) 1 w sv g.strokes) (hwf : ∀ l ∈ g.loads, (Lit.int .i64 l.scale).wf = true) (hp : IsRow (fun x : Int => [.int .i64 x]) 1 w pv pieces) (ho : (Lit.int .u8 others).wf = true) (hcd : CondsAt w) :
    Calls Tryz.prog 13 #[.agg #[v], .agg #[lv, .int .i64 g.added, .int .i64 g.base, .int .i64 g.jitter, rv, sv, .int .i64 g.spread, .bool g.stamp], .agg #[.int .i64 n.total.lo, .int .i64 n.total.hi, .int .i64 n.added, .int .i64 n.warm, .int .i64 n.hard.lo, .int .i64 n.hard.hi, .bool n.stamp], pv, .int .u8 others] w fun e w' => e = .returned (.bool true) ∧ w.Exts w' := by
  have h : 0 ≤ others ∧ others ≤ 255 := wf_u8 ho
  obtain ⟨k, rfl⟩ := Int.eq_ofNat_of_zero_le h.1
  exact l04b_any ts v g lv rv sv n pieces pv k w hrow hl hr hs hwf hcd hp (by omega)
end Go.Proofs.YtfjkiemjmnnbkaaGreatDoor
