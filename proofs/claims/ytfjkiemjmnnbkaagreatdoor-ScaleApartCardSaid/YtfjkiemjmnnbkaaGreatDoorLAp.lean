/-
  The law ScaleApart: its walk.
-/
import Derived.Test.YtfjkiemjmnnbkaaGreatDoorAm
import Derived.Test.YtfjkiemjmnnbkaaGreatDoorRy
import Derived.Test.YtfjkiemjmnnbkaaGreatDoorApart
import Derived.Test.YtfjkiemjmnnbkaaGreatDoorHp
import Derived.Test.YtfjkiemjmnnbkaaGreatDoorTk
import Derived.Test.YtfjkiemjmnnbkaaGreatDoorTj
import Derived.Test.YtfjkiemjmnnbkaaGreatDoorTm
namespace Go.Proofs.YtfjkiemjmnnbkaaGreatDoor
open Go.RowKit Kr
set_option linter.unusedSimpArgs false
attribute [local go_sem] field_bay

theorem apart_among {s : Kr.Scale} {one two added : Int} (h : check (apartBay s) (apartGear s one two added s.id) = 0) : amongB (totals (apartBay s) (apartGear s one two added s.id)) (totals (apartBay s) (apartGear s one two added (s.id + 1))) = true :=
  amongB_true (among_of_has (totals_neat _ _).1 (totals_neat _ _) fun x hx => apart_has h x hx)
theorem apart_some {s : Kr.Scale} {one two added : Int} (h : check (apartBay s) (apartGear s one two added s.id) = 0) (hn : totals (apartBay s) (apartGear s one two added s.id) ≠ []) : totals (apartBay s) (apartGear s one two added (s.id + 1)) ≠ [] := by
  intro e
  cases ht : totals (apartBay s) (apartGear s one two added s.id) with
  | nil => exact hn ht
  | cons t l =>
    have h1 := (totals_neat (apartBay s) (apartGear s one two added s.id)).1 t (by rw [ht]; exact List.mem_cons_self ..)
    have h2 := apart_has h t.lo ⟨t, by rw [ht]; exact List.mem_cons_self .., Int.le_refl _, h1⟩
    rw [e] at h2
    exact has_nil _ h2
theorem totals_ready' {b : List Kr.Scale} {g : Gear} (h : check b g = 0) : totalsR b g = (totals b g, if totals b g = [] then 6 else 0) := by
  unfold totalsR
  rw [if_pos h]
  by_cases hn : totals b g = []
  · rw [if_pos (by simp [hn]), if_pos hn, hn]
  · rw [if_neg (by simpa using hn), if_neg hn]

set_option maxRecDepth 100000 in
set_option maxHeartbeats 8000000 in
theorem l04a_any (s : Kr.Scale) (tv : Value) (one two added : Int) (w : World) (hrow : IsRow (fun t : Kr.Trial => [.int .i64 t.weight, .int .i64 t.shown]) 2 w tv s.trials) (ha : (Lit.int .u16 added).wf = true) (hcd : CondsAt w) :
    Calls Tryz.prog 11 #[.agg #[.int .i64 s.id, .int .i64 s.step, .int .i64 s.gain.lo, .int .i64 s.gain.hi, .int .i64 s.off.lo, .int .i64 s.off.hi, tv], .int .i64 one, .int .i64 two, .int .u16 added] w fun e w' => e = .returned (.bool true) ∧ w.Exts w' := by
  have hab : 0 ≤ added ∧ added ≤ 65535 := wf_u16 ha
  obtain ⟨qt, ct, rfl⟩ := hrow.len
  have HR := Lib.hid hrow
  clear hrow
  have HCD := Lib.hid hcd
  clear hcd
  clear ha
  rcases Nat.lt_or_ge 10 s.trials.length with h10 | h10
  · --[A
    as_aux_lemma =>
    go_enter Tryz.func11, Tryz.ntmps11
    go_wp2_with (go_at_call 21; refine (l04_alive_any _ (HCD.out.mono exq)).mono ?_; rintro e w' ⟨rfl, X0, rfl⟩)
    go_ret
    exact ⟨rfl, exq⟩
  cases hrt : right s
  case false =>
    as_aux_lemma =>
    have HRT := Lib.hid hrt
    clear hrt
    go_enter Tryz.func11, Tryz.ntmps11
    go_wp2_with (first
      | (go_at_call 21; refine (l04_alive_any _ (HCD.out.mono exq)).mono ?_; rintro e w' ⟨rfl, X0, rfl⟩)
      | (go_at_call 41; refine (r04_Scale_any s _ _ (HR.out.mono exq)).mono ?_; rintro e w' ⟨rfl, X1, rfl⟩; rw [HRT.out]))
    go_ret
    exact ⟨rfl, exq⟩
  obtain ⟨⟨hid1, hid2⟩, -⟩ := right_bounds hrt
  have HRT := Lib.hid hrt
  clear hrt
  by_cases h99 : s.id = 9999
  · --[C
    as_aux_lemma =>
    have hb9 : (s.id == 9999) = true := by simp [h99]
    clear h99
    go_enter Tryz.func11, Tryz.ntmps11
    go_wp2_with (first
      | (go_at_call 21; refine (l04_alive_any _ (HCD.out.mono exq)).mono ?_; rintro e w' ⟨rfl, X0, rfl⟩)
      | (go_at_call 41; refine (r04_Scale_any s _ _ (HR.out.mono exq)).mono ?_; rintro e w' ⟨rfl, X1, rfl⟩; rw [HRT.out]))
    go_ret
    exact ⟨rfl, exq⟩
  have hb9 : (s.id == 9999) = false := by simp [h99]
  have H99 := Lib.hid h99
  clear h99
  go_enter Tryz.func11, Tryz.ntmps11
  go_upto_region 10 with (first
    | (go_at_call 21; refine (l04_alive_any _ (HCD.out.mono exq)).mono ?_; rintro e w' ⟨rfl, X0, rfl⟩)
    | (go_at_call 41; refine (r04_Scale_any s _ _ (HR.out.mono exq)).mono ?_; rintro e w' ⟨rfl, X1, rfl⟩; rw [HRT.out])
    | (go_at_call 43; refine (r04_TwinScale_own s _ _ (HR.out.mono exq) (by omega)).mono ?_; rintro e w' ⟨v2, rfl, ho2, X2, rfl⟩; (obtain ⟨q2, c2, rfl⟩ := owns_len ho2); (have HO2 := Lib.hid ho2); clear ho2))
  have hz2 := World.size_ext_le _ X2
  have hz1 := World.size_ext_le _ X1
  have hz0 := World.size_ext_le _ X0
  simp only [World.size_alloc] at hz0 hz1 hz2
  obtain ⟨A, hA⟩ : ∃ A, (((((World.ext _ X2).alloc (.cells #[.int .i64 (s.id + 1), .int .i64 s.step, .int .i64 s.gain.lo, .int .i64 s.gain.hi, .int .i64 s.off.lo, .int .i64 s.off.hi, .slice q2 s.trials.length c2] 59)).alloc (.cells #[.int .i64 s.id, .int .i64 s.step, .int .i64 s.gain.lo, .int .i64 s.gain.hi, .int .i64 s.off.lo, .int .i64 s.off.hi, .slice qt s.trials.length ct, .int .i64 (s.id + 1), .int .i64 s.step, .int .i64 s.gain.lo, .int .i64 s.gain.hi, .int .i64 s.off.lo, .int .i64 s.off.hi, .slice q2 s.trials.length c2] 59)).alloc (.cells #[.slice (some ⟨(World.ext _ X2).heap.size + 1, 0, none⟩) 2 2] 24)).alloc (.cells #[.int .i64 s.id, .int .i64 one, .int .i64 s.id, .int .i64 two] 63)).alloc (.cells #[.slice (some ⟨(World.ext _ X2).heap.size + 1 + 1 + 1, 0, none⟩) 2 2, .int .i64 added, .int .i64 0, .int .i64 0, .slice none 0 0, .slice none 0 0, .int .i64 0, .bool false] 50) = A := ⟨_, rfl⟩
  have hwA : w.Exts A := by rw [← hA]; exact exq
  have hbA : BayAt A (.slice (some ⟨(World.ext _ X2).heap.size + 1, 0, none⟩) 2 2) [(s, .slice qt s.trials.length ct), (twinOf s, .slice q2 s.trials.length c2)] := by
    refine ⟨?_, fun x hx => ?_⟩
    · rw [← hA]
      have h1 : IsRow (fun x : Kr.Scale × Value => [.int .i64 x.1.id, .int .i64 x.1.step, .int .i64 x.1.gain.lo, .int .i64 x.1.gain.hi, .int .i64 x.1.off.lo, .int .i64 x.1.off.hi, x.2]) 7 (((World.ext _ X2).alloc (.cells #[.int .i64 (s.id + 1), .int .i64 s.step, .int .i64 s.gain.lo, .int .i64 s.gain.hi, .int .i64 s.off.lo, .int .i64 s.off.hi, .slice q2 s.trials.length c2] 59)).alloc (.cells #[.int .i64 s.id, .int .i64 s.step, .int .i64 s.gain.lo, .int .i64 s.gain.hi, .int .i64 s.off.lo, .int .i64 s.off.hi, .slice qt s.trials.length ct, .int .i64 (s.id + 1), .int .i64 s.step, .int .i64 s.gain.lo, .int .i64 s.gain.hi, .int .i64 s.off.lo, .int .i64 s.off.hi, .slice q2 s.trials.length c2] 59)) (.slice (some ⟨(World.ext _ X2).heap.size + 1, 0, none⟩) 2 2) [(s, .slice qt s.trials.length ct), (twinOf s, .slice q2 s.trials.length c2)] := (row_lit (enc := fun x : Kr.Scale × Value => [.int .i64 x.1.id, .int .i64 x.1.step, .int .i64 x.1.gain.lo, .int .i64 x.1.gain.hi, .int .i64 x.1.off.lo, .int .i64 x.1.off.hi, x.2]) (k := 7) ((World.ext _ X2).alloc (.cells #[.int .i64 (s.id + 1), .int .i64 s.step, .int .i64 s.gain.lo, .int .i64 s.gain.hi, .int .i64 s.off.lo, .int .i64 s.off.hi, .slice q2 s.trials.length c2] 59)) #[.int .i64 s.id, .int .i64 s.step, .int .i64 s.gain.lo, .int .i64 s.gain.hi, .int .i64 s.off.lo, .int .i64 s.off.hi, .slice qt s.trials.length ct, .int .i64 (s.id + 1), .int .i64 s.step, .int .i64 s.gain.lo, .int .i64 s.gain.hi, .int .i64 s.off.lo, .int .i64 s.off.hi, .slice q2 s.trials.length c2] 59 [(s, .slice qt s.trials.length ct), (twinOf s, .slice q2 s.trials.length c2)] _ 2 (by simp) rfl rfl (fun _ _ => rfl) (by simp)).2
      exact h1.mono exq
    · rcases List.mem_cons.1 hx with rfl | hx
      · exact HR.out.mono hwA
      · rw [List.mem_singleton.1 hx]
        have h2 : IsRow (fun t : Kr.Trial => [.int .i64 t.weight, .int .i64 t.shown]) 2 _ (.slice q2 s.trials.length c2) s.trials := IsRow.of_owns HO2.out (fun _ _ => rfl)
        refine h2.mono ?_
        rw [← hA]
        exact exq
  have hgA : GearAt A (apartGear s one two added s.id, .slice (some ⟨(World.ext _ X2).heap.size + 1 + 1 + 1, 0, none⟩) 2 2, .slice none 0 0, .slice none 0 0) := by
    refine ⟨?_, IsRow.nil _, IsRow.nil _, ⟨by simp [apartGear], by simp [apartGear]⟩, fun l hl => ?_⟩
    · rw [← hA]
      have h1 : IsRow (fun t : Kr.Load => [.int .i64 t.scale, .int .i64 t.shown]) 2 (((((World.ext _ X2).alloc (.cells #[.int .i64 (s.id + 1), .int .i64 s.step, .int .i64 s.gain.lo, .int .i64 s.gain.hi, .int .i64 s.off.lo, .int .i64 s.off.hi, .slice q2 s.trials.length c2] 59)).alloc (.cells #[.int .i64 s.id, .int .i64 s.step, .int .i64 s.gain.lo, .int .i64 s.gain.hi, .int .i64 s.off.lo, .int .i64 s.off.hi, .slice qt s.trials.length ct, .int .i64 (s.id + 1), .int .i64 s.step, .int .i64 s.gain.lo, .int .i64 s.gain.hi, .int .i64 s.off.lo, .int .i64 s.off.hi, .slice q2 s.trials.length c2] 59)).alloc (.cells #[.slice (some ⟨(World.ext _ X2).heap.size + 1, 0, none⟩) 2 2] 24)).alloc (.cells #[.int .i64 s.id, .int .i64 one, .int .i64 s.id, .int .i64 two] 63)) (.slice (some ⟨(World.ext _ X2).heap.size + 1 + 1 + 1, 0, none⟩) 2 2) [⟨s.id, one⟩, ⟨s.id, two⟩] := (row_lit (enc := fun x : Kr.Load => [.int .i64 x.scale, .int .i64 x.shown]) (k := 2) ((((World.ext _ X2).alloc (.cells #[.int .i64 (s.id + 1), .int .i64 s.step, .int .i64 s.gain.lo, .int .i64 s.gain.hi, .int .i64 s.off.lo, .int .i64 s.off.hi, .slice q2 s.trials.length c2] 59)).alloc (.cells #[.int .i64 s.id, .int .i64 s.step, .int .i64 s.gain.lo, .int .i64 s.gain.hi, .int .i64 s.off.lo, .int .i64 s.off.hi, .slice qt s.trials.length ct, .int .i64 (s.id + 1), .int .i64 s.step, .int .i64 s.gain.lo, .int .i64 s.gain.hi, .int .i64 s.off.lo, .int .i64 s.off.hi, .slice q2 s.trials.length c2] 59)).alloc (.cells #[.slice (some ⟨(World.ext _ X2).heap.size + 1, 0, none⟩) 2 2] 24)) #[.int .i64 s.id, .int .i64 one, .int .i64 s.id, .int .i64 two] 63 [⟨s.id, one⟩, ⟨s.id, two⟩] _ 2 (by simp) rfl rfl (fun _ _ => rfl) (by simp)).2
      exact h1.mono exq
    · have : l.scale = s.id := by simp [apartGear] at hl; rcases hl with rfl | rfl <;> rfl
      rw [this]
      simp only [Lit.wf, Bool.and_eq_true, decide_eq_true_eq]
      exact ⟨Int.le_trans (by decide) hid1, Int.le_trans hid2 (by decide)⟩
  have a0 : A.cell? ⟨(World.ext _ X2).heap.size, 0, none⟩ = some (.int .i64 (s.id + 1)) := by rw [← hA]; simp [go_sem]
  have a1 : A.cell? ⟨(World.ext _ X2).heap.size + 1 + 1, 0, none⟩ = some (.slice (some ⟨(World.ext _ X2).heap.size + 1, 0, none⟩) 2 2) := by rw [← hA]; simp [go_sem]
  have g0 : A.cell? ⟨(World.ext _ X2).heap.size + 1 + 1 + 1 + 1, 0, none⟩ = some (.slice (some ⟨(World.ext _ X2).heap.size + 1 + 1 + 1, 0, none⟩) 2 2) := by rw [← hA]; simp [go_sem]
  have g1 : A.cell? ⟨(World.ext _ X2).heap.size + 1 + 1 + 1 + 1, 1, none⟩ = some (.int .i64 added) := by rw [← hA]; simp [go_sem]
  have g2 : A.cell? ⟨(World.ext _ X2).heap.size + 1 + 1 + 1 + 1, 2, none⟩ = some (.int .i64 0) := by rw [← hA]; simp [go_sem]
  have g3 : A.cell? ⟨(World.ext _ X2).heap.size + 1 + 1 + 1 + 1, 3, none⟩ = some (.int .i64 0) := by rw [← hA]; simp [go_sem]
  have g4 : A.cell? ⟨(World.ext _ X2).heap.size + 1 + 1 + 1 + 1, 4, none⟩ = some (.slice none 0 0) := by rw [← hA]; simp [go_sem]
  have g5 : A.cell? ⟨(World.ext _ X2).heap.size + 1 + 1 + 1 + 1, 5, none⟩ = some (.slice none 0 0) := by rw [← hA]; simp [go_sem]
  have g6 : A.cell? ⟨(World.ext _ X2).heap.size + 1 + 1 + 1 + 1, 6, none⟩ = some (.int .i64 0) := by rw [← hA]; simp [go_sem]
  have g7 : A.cell? ⟨(World.ext _ X2).heap.size + 1 + 1 + 1 + 1, 7, none⟩ = some (.bool false) := by rw [← hA]; simp [go_sem]
  rw [hA]
  clear hA hz0 hz1 hz2 HO2
  generalize (World.ext _ X2).heap.size = n2 at *
  have m0 := Lays.of_cell a0
  have m1 := Lays.of_cell a1
  have m2 := Lays.of_cell g0
  have HBA := Lib.hid hbA
  clear hbA
  have HGA := Lib.hid hgA
  clear hgA
  go_upto_region 12 with (go_at_call 46; refine (r04_TwinGear_new (apartGear s one two added s.id) _ _ _ _ HGA.out (by simp [apartGear]) (by simp [apartGear]) (by simp [apartGear])).mono ?_; rintro e w' ⟨l', r', s', rfl, hg9, hE9, b1, b2, b3, hb1, hb2, hb3, o1, o2, o3, -, -⟩; dsimp only [apartGear, List.length_cons, List.length_nil, Nat.reduceAdd, Nat.zero_add] at o1 o2 o3 ⊢; (obtain ⟨gl, cl, rfl, hgl, hgl2⟩ := owns_form o1 (by omega)); (obtain ⟨qr, cr, rfl⟩ := owns_len o2); (obtain ⟨qs, cs, rfl⟩ := owns_len o3); (have e9 : w'.cell? ⟨gl, 2, none⟩ = some (.int .i64 s.id) := (by rw [o1.cellAt 2 (by simp)]; rfl)); (have f9 := o1.frozenAt 2); (have n9 := Lays.of_cell e9); (have HG9 := Lib.hid hg9); (have HO1 := Lib.hid o1); clear hg9 o1 o2 o3; obtain ⟨X4, rfl⟩ := hE9)
  obtain ⟨V, hV⟩ : ∃ V, ((World.ext _ X4).setCell ⟨gl, 2, none⟩ (.int .i64 (s.id + 1))).alloc (.cells #[.slice (some ⟨gl, 0, none⟩) 2 cl, .int .i64 added, .int .i64 0, .int .i64 0, .slice qr 0 cr, .slice qs 0 cs, .int .i64 0, .bool false] 50) = V := ⟨_, rfl⟩
  have hAV : A.Exts V := by
    rw [← hV]
    refine World.Exts.alloc (World.Exts.setCell exq (by dsimp only; omega) _) _
  have hEV := hwA.trans hAV
  have hz4 := World.size_ext_le _ X4
  have hsA := Lays.lt (w := A) (n := n2 + 1 + 1 + 1 + 1)
  have ho9 := (HO1.out.stored 2 (.int .i64 (s.id + 1))).1.alloc (.cells #[.slice (some ⟨gl, 0, none⟩) 2 cl, .int .i64 added, .int .i64 0, .int .i64 0, .slice qr 0 cr, .slice qs 0 cs, .int .i64 0, .bool false] 50)
  rw [hV] at ho9
  have hG2 : GearAt V (apartGear s one two added (s.id + 1), .slice (some ⟨gl, 0, none⟩) 2 cl, .slice qr 0 cr, .slice qs 0 cs) := by
    refine ⟨?_, IsRow.nil_any (enc := fun x : Int => [.int .i64 x]) HG9.out.r, IsRow.nil_any (enc := fun x : Int => [.int .i64 x]) HG9.out.s, ⟨by simp [apartGear], by simp [apartGear]⟩, fun l hl => ?_⟩
    · exact IsRow.of_owns (enc := fun x : Kr.Load => [.int .i64 x.scale, .int .i64 x.shown]) (size := 2) (ys := [⟨s.id, one⟩, ⟨s.id + 1, two⟩]) ho9 (fun _ _ => rfl)
    · have : l.scale = s.id ∨ l.scale = s.id + 1 := by simp [apartGear] at hl; rcases hl with rfl | rfl <;> simp
      have h2 : -9223372036854775808 ≤ l.scale ∧ l.scale ≤ 9223372036854775807 := by omega
      simp only [Lit.wf, Bool.and_eq_true, decide_eq_true_eq]
      exact h2
  have c1 := hAV.cell a1
  have k0 := hAV.cell g0
  have k1 := hAV.cell g1
  have k2 := hAV.cell g2
  have k3 := hAV.cell g3
  have k4 := hAV.cell g4
  have k5 := hAV.cell g5
  have k6 := hAV.cell g6
  have k7 := hAV.cell g7
  haveI : Differ gl (World.ext _ X4).heap.size := ⟨by omega⟩
  have j0 : V.cell? ⟨(World.ext _ X4).heap.size, 0, none⟩ = some (.slice (some ⟨gl, 0, none⟩) 2 cl) := by rw [← hV]; simp [go_sem]
  have j1 : V.cell? ⟨(World.ext _ X4).heap.size, 1, none⟩ = some (.int .i64 added) := by rw [← hV]; simp [go_sem]
  have j2 : V.cell? ⟨(World.ext _ X4).heap.size, 2, none⟩ = some (.int .i64 0) := by rw [← hV]; simp [go_sem]
  have j3 : V.cell? ⟨(World.ext _ X4).heap.size, 3, none⟩ = some (.int .i64 0) := by rw [← hV]; simp [go_sem]
  have j4 : V.cell? ⟨(World.ext _ X4).heap.size, 4, none⟩ = some (.slice qr 0 cr) := by rw [← hV]; simp [go_sem]
  have j5 : V.cell? ⟨(World.ext _ X4).heap.size, 5, none⟩ = some (.slice qs 0 cs) := by rw [← hV]; simp [go_sem]
  have j6 : V.cell? ⟨(World.ext _ X4).heap.size, 6, none⟩ = some (.int .i64 0) := by rw [← hV]; simp [go_sem]
  have j7 : V.cell? ⟨(World.ext _ X4).heap.size, 7, none⟩ = some (.bool false) := by rw [← hV]; simp [go_sem]
  rw [hV]
  clear hV ho9 hz4 hsA HO1 HG9 e9 f9 n9 a0 a1 g0 g1 g2 g3 g4 g5 g6 g7 hgl2 hgl hb1 hb2 hb3
  generalize (World.ext _ X4).heap.size = nb at *
  have p1 := Lays.of_cell c1
  have p2 := Lays.of_cell k0
  have p3 := Lays.of_cell j0
  have HG2 := Lib.hid hG2
  clear hG2
  cases hrd : readyB [(s, .slice qt s.trials.length ct), (twinOf s, .slice q2 s.trials.length c2)] (apartGear s one two added s.id)
  case false =>
    as_aux_lemma =>
    have HRD := Lib.hid hrd
    clear hrd
    go_wp2_with (go_at_call 22; refine (l04_ready_any _ _ (apartGear s one two added s.id) _ _ _ _ (HBA.out.mono (exf hAV)) (HGA.out.l.mono (exf hAV)) (HGA.out.r.mono (exf hAV)) (HGA.out.s.mono (exf hAV))).mono ?_; rintro e w' ⟨rfl, X5, rfl⟩; rw [HRD.out])
    go_ret
    exact ⟨rfl, (exf hEV)⟩
  obtain ⟨-, hck⟩ := ready_parts hrd
  have hck1 : check (apartBay s) (apartGear s one two added s.id) = 0 := hck
  have hck2 := apart_check hck1
  have htr1 := totals_ready' hck1
  have htr2 := totals_ready' hck2
  have ham := apart_among hck1
  have hsome := apart_some hck1
  have HRD := Lib.hid hrd
  clear hrd
  clear hck hck1 hck2
  have T1 := fun (W : World) (hE : V.Exts W) => scale_Totals_any [(s, .slice qt s.trials.length ct), (twinOf s, .slice q2 s.trials.length c2)] _ (apartGear s one two added s.id) _ _ _ W (HBA.out.mono (hAV.trans hE)) (HGA.out.mono (hAV.trans hE))
  have T2 := fun (W : World) (hE : V.Exts W) => scale_Totals_any [(s, .slice qt s.trials.length ct), (twinOf s, .slice q2 s.trials.length c2)] _ (apartGear s one two added (s.id + 1)) _ _ _ W (HBA.out.mono (hAV.trans hE)) (HG2.out.mono hE)
  rw [show ([(s, .slice qt s.trials.length ct), (twinOf s, .slice q2 s.trials.length c2)] : List (Kr.Scale × Value)).map Prod.fst = apartBay s from rfl] at T1 T2
  rw [htr1] at T1
  rw [htr2] at T2
  generalize totals (apartBay s) (apartGear s one two added s.id) = l1 at *
  generalize totals (apartBay s) (apartGear s one two added (s.id + 1)) = l2 at *
  clear htr1 htr2
  dsimp only [apartGear] at T1 T2
  by_cases ht1 : l1 = []
  · simp only [if_pos ht1] at T1
    clear ham hsome
    by_cases ht2 : l2 = []
    · --[E
      as_aux_lemma =>
      simp only [if_pos ht2] at T2
      have HT1 := Lib.hid T1
      clear T1
      have HT2 := Lib.hid T2
      clear T2
      clear ht1 ht2
      go_wp2_with (first
        | (go_at_call 22; refine (l04_ready_any _ _ (apartGear s one two added s.id) _ _ _ _ (HBA.out.mono (exf hAV)) (HGA.out.l.mono (exf hAV)) (HGA.out.r.mono (exf hAV)) (HGA.out.s.mono (exf hAV))).mono ?_; rintro e w' ⟨rfl, X5, rfl⟩; rw [HRD.out])
        | (go_at_call 29; ((with_reducible refine (HT1.out _ ?h1).mono ?_); (case h1 => exact exq)); rintro e w' ⟨v1, rfl, -, X6, rfl⟩)
        | (go_at_call 29; ((with_reducible refine (HT2.out _ ?h2).mono ?_); (case h2 => exact exq)); rintro e w' ⟨v2, rfl, -, X7, rfl⟩))
      go_ret
      exact ⟨rfl, (exf hEV)⟩
    · --[F
      as_aux_lemma =>
      simp only [if_neg ht2] at T2
      have HT1 := Lib.hid T1
      clear T1
      have HT2 := Lib.hid T2
      clear T2
      clear ht1 ht2
      go_wp2_with (first
        | (go_at_call 22; refine (l04_ready_any _ _ (apartGear s one two added s.id) _ _ _ _ (HBA.out.mono (exf hAV)) (HGA.out.l.mono (exf hAV)) (HGA.out.r.mono (exf hAV)) (HGA.out.s.mono (exf hAV))).mono ?_; rintro e w' ⟨rfl, X5, rfl⟩; rw [HRD.out])
        | (go_at_call 29; ((with_reducible refine (HT1.out _ ?h1).mono ?_); (case h1 => exact exq)); rintro e w' ⟨v1, rfl, -, X6, rfl⟩)
        | (go_at_call 29; ((with_reducible refine (HT2.out _ ?h2).mono ?_); (case h2 => exact exq)); rintro e w' ⟨v2, rfl, -, X7, rfl⟩))
      go_ret
      exact ⟨rfl, (exf hEV)⟩
  · have ht2 := hsome ht1
    as_aux_lemma =>
    simp only [if_neg ht1] at T1
    simp only [if_neg ht2] at T2
    have HT1 := Lib.hid T1
    clear T1
    have HT2 := Lib.hid T2
    clear T2
    have HAM := Lib.hid ham
    clear ham
    clear ht1 ht2 hsome
    go_wp2_with (first
      | (go_at_call 22; refine (l04_ready_any _ _ (apartGear s one two added s.id) _ _ _ _ (HBA.out.mono (exf hAV)) (HGA.out.l.mono (exf hAV)) (HGA.out.r.mono (exf hAV)) (HGA.out.s.mono (exf hAV))).mono ?_; rintro e w' ⟨rfl, X5, rfl⟩; rw [HRD.out])
      | (go_at_call 29; ((with_reducible refine (HT1.out _ ?h1).mono ?_); (case h1 => exact exq)); rintro e w' ⟨v1, rfl, hv1, X6, rfl⟩; (obtain ⟨qv1, cv1, rfl⟩ := hv1.len); (have HV1 := Lib.hid hv1); clear hv1)
      | (go_at_call 29; ((with_reducible refine (HT2.out _ ?h2).mono ?_); (case h2 => exact exq)); rintro e w' ⟨v2, rfl, hv2, X7, rfl⟩; (obtain ⟨qv2, cv2, rfl⟩ := hv2.len); (have HV2 := Lib.hid hv2); clear hv2)
      | (go_at_call 45; refine (l04_among_any l1 l2 _ _ _ (HV1.out.mono exq) (HV2.out.mono exq)).mono ?_; rintro e w' ⟨rfl, X8, rfl⟩; rw [HAM.out]))
    go_ret
    exact ⟨rfl, (exf hEV)⟩
end Go.Proofs.YtfjkiemjmnnbkaaGreatDoor
