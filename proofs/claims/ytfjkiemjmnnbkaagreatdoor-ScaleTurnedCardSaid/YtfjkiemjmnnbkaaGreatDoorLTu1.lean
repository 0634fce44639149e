/-
  The law ScaleTurned: its walk.
-/
import Derived.Test.YtfjkiemjmnnbkaaGreatDoorAm
import Derived.Test.YtfjkiemjmnnbkaaGreatDoorRy
import Derived.Test.YtfjkiemjmnnbkaaGreatDoorTurn
import Derived.Test.YtfjkiemjmnnbkaaGreatDoorHp
import Derived.Test.YtfjkiemjmnnbkaaGreatDoorTuA
import Derived.Deep.DeepCutAuto
namespace Go.Proofs.YtfjkiemjmnnbkaaGreatDoor
open Go.RowKit Kr
set_option linter.unusedSimpArgs false

/-- What the region of the twins leaves. -/
def TwinsAt (ts : List (Kr.Scale × Value)) (g : Gear) (b c : Nat) (W : World) (v : Value) : Prop :=
  (c = 1 → ∃ v' ts', v = .agg #[v'] ∧ BayAt W v' ts' ∧ ts'.map Prod.fst = ts.map Prod.fst ∧ (∀ x ∈ ts', RowT 95 W x.2) ∧ OffT 59 0 W v' ts' ∧ NewBay b W v' ts') ∧
  (c = 3 → ∃ l r s, v = .agg #[l, .int .i64 g.added, .int .i64 g.base, .int .i64 g.jitter, r, s, .int .i64 g.spread, .bool g.stamp] ∧ GearAt W (g, l, r, s) ∧ NewGear b W g l r s) ∧
  (c = 4 → ∃ pp, v = .pointer (some ⟨pp, 0, none⟩) ∧ b ≤ pp ∧ LaysAs W pp (.cells [.slice none 0 0].toArray 24 (0, 0))) ∧
  (c = 5 → ∃ pp, v = .pointer (some ⟨pp, 0, none⟩) ∧ b ≤ pp ∧ LaysAs W pp (.cells [.slice none 0 0, .int .i64 0, .int .i64 0, .int .i64 0, .slice none 0 0, .slice none 0 0, .int .i64 0, .bool false].toArray 50 (0, 0)))
theorem TwinsAt.mono {ts : List (Kr.Scale × Value)} {g : Gear} {b c : Nat} {W W' : World} {v : Value} (h : TwinsAt ts g b c W v) (hE : W.Exts W') : TwinsAt ts g b c W' v := by
  obtain ⟨h1, h2, h3, h4⟩ := h
  refine ⟨fun e => ?_, fun e => ?_, fun e => ?_, fun e => ?_⟩
  · obtain ⟨v', ts', k1, k2, k3, k4, k5, k6⟩ := h1 e
    exact ⟨v', ts', k1, k2.mono hE, k3, fun x hx => (k4 x hx).exts hE, k5.exts hE, k6.mono hE⟩
  · obtain ⟨l, r, s, k1, k2, k3⟩ := h2 e
    exact ⟨l, r, s, k1, k2.mono hE, k3.mono hE⟩
  · obtain ⟨pp, k1, k2, k3⟩ := h3 e
    exact ⟨pp, k1, k2, k3.exts hE⟩
  · obtain ⟨pp, k1, k2, k3⟩ := h4 e
    exact ⟨pp, k1, k2, k3.exts hE⟩
/-- Scales under other numbers. -/
def mvX (m : Int) (x : Kr.Scale × Value) : Kr.Scale × Value := (mvS m x.1, x.2)

set_option maxRecDepth 100000 in
set_option maxHeartbeats 8000000 in
noncomputable def l04u_any_c1 : { G : Prop // G → ∀ (ts : List (Kr.Scale × Value)) (v : Value) (g : Gear) (lv rv sv : Value) (n : Norm) (turn more : Int) (w : World) (_ : BayAt w v ts)
    (_ : IsRow (fun t : Kr.Load => [.int .i64 t.scale, .int .i64 t.shown]) 2 w lv g.loads) (_ : IsRow (fun x : Int => [.int .i64 x]) 1 w rv g.runners) (_ : IsRow (fun x : Int => [.int .i64 x]) 1 w sv g.strokes) (_ : ∀ l ∈ g.loads, (Lit.int .i64 l.scale).wf = true) (_ : (Lit.int .u8 turn).wf = true) (_ : (Lit.int .u8 more).wf = true) (_ : CondsAt w),
    Calls Tryz.prog 10 #[.agg #[v], .agg #[lv, .int .i64 g.added, .int .i64 g.base, .int .i64 g.jitter, rv, sv, .int .i64 g.spread, .bool g.stamp], .agg #[.int .i64 n.total.lo, .int .i64 n.total.hi, .int .i64 n.added, .int .i64 n.warm, .int .i64 n.hard.lo, .int .i64 n.hard.hi, .bool n.stamp], .int .u8 turn, .int .u8 more] w fun e w' => e = .returned (.bool true) ∧ w.Exts w' } := by
  apply Subtype.mk
  case property =>
  intro hG
  have HG := Lib.hid hG
  clear hG
  intro ts v g lv rv sv n turn more w hrow hl hr hs hwf ht hm hcd
  have htb := wf_u8 ht
  have hmb := wf_u8 hm
  clear ht hm
  obtain ⟨q0, cp0, rfl⟩ := hrow.row.len
  obtain ⟨q1, cp1, rfl⟩ := hl.len
  obtain ⟨q2, cp2, rfl⟩ := hr.len
  obtain ⟨q3, cp3, rfl⟩ := hs.len
  have HB := Lib.hid hrow
  clear hrow
  have HL := Lib.hid hl
  clear hl
  have HR := Lib.hid hr
  clear hr
  have HS := Lib.hid hs
  clear hs
  have HWF := Lib.hid hwf
  clear hwf
  have HCD := Lib.hid hcd
  clear hcd
  cases hrd : readyB ts g
  case false =>
    as_aux_lemma =>
    have HRD := Lib.hid hrd
    clear hrd
    go_enter Tryz.func10, Tryz.ntmps10
    go_wp2_with (first
      | (go_at_call 21; refine (l04_alive_any _ (HCD.out.mono exq)).mono ?_; rintro e w' ⟨rfl, X0, rfl⟩)
      | (go_at_call 22; refine (l04_ready_any ts _ g _ _ _ _ (HB.out.mono exq) (HL.out.mono exq) (HR.out.mono exq) (HS.out.mono exq)).mono ?_; rintro e w' ⟨rfl, X1, rfl⟩; rw [HRD.out]))
    go_ret
    exact ⟨rfl, exq⟩
  obtain ⟨hgr, hck⟩ := ready_parts hrd
  have hgn := great_not hgr
  have hga : GearAt w (g, .slice q1 g.loads.length cp1, .slice q2 g.runners.length cp2, .slice q3 g.strokes.length cp3) := ⟨HL.out, HR.out, HS.out, by dsimp only; omega, HWF.out⟩
  obtain ⟨hg1, hg2, hg3, hg4, hg5⟩ := hgn
  have hg2' : ∀ x ∈ ts, x.1.trials.length ≤ 1000 := fun x hx => Nat.le_trans (hg2 x hx) (by omega)
  have HRD := Lib.hid hrd
  clear hrd
  have HGA := Lib.hid hga
  clear hga
  have HG2 := Lib.hid hg2'
  clear hg2'
  clear hgr hg2
  cases hn : normB n
  case false =>
    as_aux_lemma =>
    have HN := Lib.hid hn
    clear hn
    clear hck
    go_enter Tryz.func10, Tryz.ntmps10
    go_wp2_with (first
      | (go_at_call 21; refine (l04_alive_any _ (HCD.out.mono exq)).mono ?_; rintro e w' ⟨rfl, X0, rfl⟩)
      | (go_at_call 22; refine (l04_ready_any ts _ g _ _ _ _ (HB.out.mono exq) (HL.out.mono exq) (HR.out.mono exq) (HS.out.mono exq)).mono ?_; rintro e w' ⟨rfl, X1, rfl⟩; rw [HRD.out])
      | (go_at_call 23; refine (r04_Norm_any n _).mono ?_; rintro e w' ⟨rfl, X2, rfl⟩; rw [HN.out]))
    go_ret
    exact ⟨rfl, exq⟩
  have HN := Lib.hid hn
  clear hn
  have HCK := Lib.hid hck
  clear hck
  go_enter Tryz.func10, Tryz.ntmps10
  go_wp2_with (first
    | (go_at_call 21; refine (l04_alive_any _ (HCD.out.mono exq)).mono ?_; rintro e w' ⟨rfl, X0, rfl⟩)
    | (go_at_call 22; refine (l04_ready_any ts _ g _ _ _ _ (HB.out.mono exq) (HL.out.mono exq) (HR.out.mono exq) (HS.out.mono exq)).mono ?_; rintro e w' ⟨rfl, X1, rfl⟩; rw [HRD.out])
    | (go_at_call 23; refine (r04_Norm_any n _).mono ?_; rintro e w' ⟨rfl, X2, rfl⟩; rw [HN.out]))
  obtain ⟨A, hA⟩ : ∃ A, World.ext _ X2 = A := ⟨_, rfl⟩
  have hwA : w.Exts A := by rw [← hA]; exact exq
  have a0 : A.cell? ⟨w.heap.size, 0, none⟩ = some (.slice q0 ts.length cp0) := by rw [← hA]; simp [go_sem]
  have g0 : A.cell? ⟨w.heap.size + 1, 0, none⟩ = some (.slice q1 g.loads.length cp1) := by rw [← hA]; simp [go_sem]
  have g1 : A.cell? ⟨w.heap.size + 1, 1, none⟩ = some (.int .i64 g.added) := by rw [← hA]; simp [go_sem]
  have g2 : A.cell? ⟨w.heap.size + 1, 2, none⟩ = some (.int .i64 g.base) := by rw [← hA]; simp [go_sem]
  have g3 : A.cell? ⟨w.heap.size + 1, 3, none⟩ = some (.int .i64 g.jitter) := by rw [← hA]; simp [go_sem]
  have g4 : A.cell? ⟨w.heap.size + 1, 4, none⟩ = some (.slice q2 g.runners.length cp2) := by rw [← hA]; simp [go_sem]
  have g5 : A.cell? ⟨w.heap.size + 1, 5, none⟩ = some (.slice q3 g.strokes.length cp3) := by rw [← hA]; simp [go_sem]
  have g6 : A.cell? ⟨w.heap.size + 1, 6, none⟩ = some (.int .i64 g.spread) := by rw [← hA]; simp [go_sem]
  have g7 : A.cell? ⟨w.heap.size + 1, 7, none⟩ = some (.bool g.stamp) := by rw [← hA]; simp [go_sem]
  have m0 : A.cell? ⟨w.heap.size + 1 + 1, 0, none⟩ = some (.int .i64 n.total.lo) := by rw [← hA]; simp [go_sem]
  have m1 : A.cell? ⟨w.heap.size + 1 + 1, 1, none⟩ = some (.int .i64 n.total.hi) := by rw [← hA]; simp [go_sem]
  have m2 : A.cell? ⟨w.heap.size + 1 + 1, 2, none⟩ = some (.int .i64 n.added) := by rw [← hA]; simp [go_sem]
  have m3 : A.cell? ⟨w.heap.size + 1 + 1, 3, none⟩ = some (.int .i64 n.warm) := by rw [← hA]; simp [go_sem]
  have m4 : A.cell? ⟨w.heap.size + 1 + 1, 4, none⟩ = some (.int .i64 n.hard.lo) := by rw [← hA]; simp [go_sem]
  have m5 : A.cell? ⟨w.heap.size + 1 + 1, 5, none⟩ = some (.int .i64 n.hard.hi) := by rw [← hA]; simp [go_sem]
  have m6 : A.cell? ⟨w.heap.size + 1 + 1, 6, none⟩ = some (.bool n.stamp) := by rw [← hA]; simp [go_sem]
  rw [hA]
  clear hA
  have l1 := Lays.of_cell a0
  have l2 := Lays.of_cell g0
  have l3 := Lays.of_cell m0
  refine wp_region_calls 6 (fun i => i == 1 || i == 3 || i == 4 || i == 5) (fun c v W => TwinsAt ts g A.heap.size c W v) (by kernel_rfl) (fun ν => by kernel_rfl) (by kernel_rfl) (by kernel_rfl) (by kernel_rfl) (by kernel_rfl) ?mono ?_
  rotate_left 1
  apply Exists.intro
  refine ⟨fun ν L hL => ?_, fun c oc hc hU ν W hE hΦ => ?_, fun ν W hE hΦ => ?_⟩
  · simp only [modU, cOp, List.mapIdx_cons, List.mapIdx_nil, Nat.zero_add, Nat.reduceAdd, Nat.reduceBEq, Bool.or_false, Bool.false_or, Bool.or_true, Bool.true_or, Bool.or_self, Bool.false_eq_true, if_false, if_true, List.take_succ_cons, List.take_zero]
    repeat (go_big_quiet_step (fail))
    exact wpQuiet_nil hL
  · simp at hU
    have hwW : w.Exts W := hwA.trans hE
    have hszW := hE.size
    rcases hU with ((rfl | rfl) | rfl) | rfl
    · simp only [List.getElem?_cons_succ, List.getElem?_cons_zero, Option.some.injEq] at hc
      subst hc
      refine Oper.gives_fn rfl rfl rfl (enters_of Tryz.func44 (by kernel_rfl) rfl) ?_ rfl
      refine (r04_TwinBay_new ts _ W (HB.out.mono hwW) (by omega) HG2.out).mono ?_
      rintro e W' ⟨v', ts', rfl, h1, h2, h3, h4, h5, h6⟩
      exact ⟨_, rfl, h3, fun _ => ⟨v', ts', rfl, h1, h2, h4, h5, NewBay.of h6 (by omega)⟩, fun e => (by cases e), fun e => (by cases e), fun e => (by cases e)⟩
    · simp only [List.getElem?_cons_succ, List.getElem?_cons_zero, Option.some.injEq] at hc
      subst hc
      refine Oper.gives_fn rfl rfl rfl (enters_of Tryz.func46 (by kernel_rfl) rfl) ?_ rfl
      refine (r04_TwinGear_new g _ _ _ W (HGA.out.mono hwW) (by omega) (by omega) (by omega)).mono ?_
      rintro e W' ⟨l', r', s', rfl, h1, h2, h3⟩
      exact ⟨_, rfl, h2, fun e => (by cases e), fun _ => ⟨l', r', s', rfl, h1, NewGear.of h3 (by omega)⟩, fun e => (by cases e), fun e => (by cases e)⟩
    · simp only [List.getElem?_cons_succ, List.getElem?_cons_zero, Option.some.injEq] at hc
      subst hc
      exact .inr ⟨.pointer (some ⟨W.heap.size, 0, none⟩), W.alloc (.cells #[.slice none 0 0] 24), by kernel_rfl, exq, fun e => (by cases e), fun e => (by cases e), fun _ => ⟨_, rfl, by omega, laysAs_size W _ rfl⟩, fun e => (by cases e)⟩
    · simp only [List.getElem?_cons_succ, List.getElem?_cons_zero, Option.some.injEq] at hc
      subst hc
      exact .inr ⟨.pointer (some ⟨W.heap.size, 0, none⟩), W.alloc (.cells #[.slice none 0 0, .int .i64 0, .int .i64 0, .int .i64 0, .slice none 0 0, .slice none 0 0, .int .i64 0, .bool false] 50), by kernel_rfl, exq, fun e => (by cases e), fun e => (by cases e), fun e => (by cases e), fun _ => ⟨_, rfl, by omega, laysAs_size W _ rfl⟩⟩
  rotate_left 1
  case mono => exact fun c v W W' h hE => h.mono hE
  obtain ⟨vb, ts', hν1, hbA, hts, hbT, hbS, hbN⟩ := (hΦ 1 (by decide) rfl).1 rfl
  obtain ⟨l', r', s', hν3, hgA, hgN⟩ := (hΦ 3 (by decide) rfl).2.1 rfl
  obtain ⟨p4, hν4, hb4, hp4⟩ := (hΦ 4 (by decide) rfl).2.2.1 rfl
  obtain ⟨p5, hν5, hb5, hp5⟩ := (hΦ 5 (by decide) rfl).2.2.2 rfl
  simp only [List.drop_succ_cons, List.drop_zero]
  generalize ν 1 = v1 at hν1 ⊢
  generalize ν 3 = v3 at hν3 ⊢
  generalize ν 4 = v4 at hν4 ⊢
  generalize ν 5 = v5 at hν5 ⊢
  subst hν1 hν3 hν4 hν5
  clear hΦ
  obtain ⟨b1, b2, b3, hTU⟩ := TuAt.start hE hp4 hp5 hb4 hb5 hbA hbT hbS hbN hgN
  have c4 := LaysAs.cell hp4 0 _ rfl
  have c50 := LaysAs.cell hp5 0 _ rfl
  have c51 := LaysAs.cell hp5 1 _ rfl
  have c52 := LaysAs.cell hp5 2 _ rfl
  have c53 := LaysAs.cell hp5 3 _ rfl
  have c54 := LaysAs.cell hp5 4 _ rfl
  have c55 := LaysAs.cell hp5 5 _ rfl
  have c56 := LaysAs.cell hp5 6 _ rfl
  have c57 := LaysAs.cell hp5 7 _ rfl
  have f4 : W.frozen? ⟨p4, 0, none⟩ = false := laysAs_frozen hp4
  have f5 := fun i => (laysAs_frozen (i := i) hp5 : W.frozen? ⟨p5, i, none⟩ = false)
  have f50 := f5 0
  have f51 := f5 1
  have f52 := f5 2
  have f53 := f5 3
  have f54 := f5 4
  have f55 := f5 5
  have f56 := f5 6
  have f57 := f5 7
  clear f5
  have hd45 : Differ p4 p5 := ⟨fun e => by subst e; unfold LaysAs at hp4 hp5; rw [hp4] at hp5; simp at hp5⟩
  have hd54 : Differ p5 p4 := ⟨fun e => hd45.ne e.symm⟩
  obtain ⟨qS, cS, eS⟩ := hbA.row.len
  obtain ⟨qL, cL, eL⟩ := hgA.l.len
  obtain ⟨qR, cR, eR⟩ := hgA.r.len
  obtain ⟨qK, cK, eK⟩ := hgA.s.len
  dsimp only at eS eL eR eK
  subst eS eL eR eK
  have hTV := ((((((((hTU.put4 0 (.slice qS ts'.length cS)).put5 0 (.slice qL g.loads.length cL)).put5 1 (.int .i64 g.added)).put5 2 (.int .i64 g.base)).put5 3 (.int .i64 g.jitter)).put5 4 (.slice qR g.runners.length cR)).put5 5 (.slice qK g.strokes.length cK)).put5 6 (.int .i64 g.spread)).put5 7 (.bool g.stamp)
  dsimp only [List.set_cons_zero, List.set_cons_succ] at hTV
  have HTV := Lib.hid hTV
  clear hTV
  have HTS := Lib.hid hts
  clear hts
  clear hTU hbA hgA hbT hbS hbN hgN hp4 hp5
  go_wp2_with fail
  obtain ⟨V, hV⟩ : ∃ V, (((((((((W.setCell ⟨p4, 0, none⟩ (.slice qS ts'.length cS)).setCell ⟨p5, 0, none⟩ (.slice qL g.loads.length cL)).setCell ⟨p5, 1, none⟩ (.int .i64 g.added)).setCell ⟨p5, 2, none⟩ (.int .i64 g.base)).setCell ⟨p5, 3, none⟩ (.int .i64 g.jitter)).setCell ⟨p5, 4, none⟩ (.slice qR g.runners.length cR)).setCell ⟨p5, 5, none⟩ (.slice qK g.strokes.length cK)).setCell ⟨p5, 6, none⟩ (.int .i64 g.spread)).setCell ⟨p5, 7, none⟩ (.bool g.stamp)) = V := ⟨_, rfl⟩
  have hTV := HTV.out
  rw [hV] at hTV ⊢
  have HTU := Lib.hid hTV
  clear hTV
  clear hV HTV c4 c50 c51 c52 c53 c54 c55 c56 c57 f4 f50 f51 f52 f53 f54 f55 f56 f57 hE
  have hsl : ts'.length = ts.length := by have h := congrArg List.length HTS.out; simpa using h
  have hids : ∀ x ∈ ts', 0 ≤ x.1.id ∧ x.1.id ≤ 9999 := fun x hx => by
    have h1 : x.1 ∈ ts.map Prod.fst := by rw [← HTS.out]; exact List.mem_map.2 ⟨x, hx, rfl⟩
    exact (right_bounds (bayOk_right (check_zero HCK.out).1 _ h1)).1
  have hlds : ∀ x ∈ g.loads, 0 ≤ x.scale ∧ x.scale ≤ 9999 := fun x hx => by
    obtain ⟨s, hs, e⟩ := gearOk_at (check_zero HCK.out).2 x hx
    rw [← e]
    exact (right_bounds (bayOk_right (check_zero HCK.out).1 _ hs)).1
  have HIDS := Lib.hid hids
  clear hids
  have HLDS := Lib.hid hlds
  clear hlds
  have HSL := Lib.hid hsl
  clear hsl
  clear hd45 hd54 hb4 hb5
  clear X0 X1 X2
  rename_i i9_1_1 i9_1_2 i9_1_3
  revert ts g n turn more w htb hmb q0 cp0 q1 cp1 q2 cp2 q3 cp3 HB HL HR HS HWF HCD hg1 hg3 hg4 hg5 HRD HGA HG2 HN HCK i9_1_1 A hwA a0 g0 g1 g2 g3 g4 g5 g6 g7 m0 m1 m2 m3 m4 m5 m6 l1 l2 l3 ν W ts' p4 p5 b1 b2 b3 qS cS qL cL qR cR qK cK HTS i9_1_2 i9_1_3 V HTU HIDS HLDS HSL
  exact HG.out
end Go.Proofs.YtfjkiemjmnnbkaaGreatDoor
