/-
  Several texts in one: see the heads of its parts.
-/
import Derived.Test.YtfjkiemjmnnbkaaDoorAm
import Derived.Test.YtfjkiemjmnnbkaaDoorExG
import Derived.Test.YtfjkiemjmnnbkaaDoorInv
import Derived.Deep.DeepCutAuto

/-
  The law ScaleExamples: its walk.
-/
namespace Go.Proofs.YtfjkiemjmnnbkaaDoor
open Go.RowKit Kr
set_option linter.unusedSimpArgs false
attribute [local go_sem] field_bay

set_option maxRecDepth 100000 in
set_option maxHeartbeats 8000000 in
noncomputable def l04ex_any_c1 : { G : Prop // G → ∀ (w : World) (_ : CondsAt w),
    Calls Tryd.prog 3 #[] w fun e w' => e = .returned (.bool true) ∧ w.Exts w' } := by
  apply Subtype.mk
  case property =>
  intro hG
  have HG := Lib.hid hG
  clear hG
  intro w hcd
  have HCD := Lib.hid hcd
  clear hcd
  have htu := fun (v : Value) (W : World) (hv : IsRow (fun t : Kr.Tune => [.int .i64 t.gain, .int .i64 t.off.lo, .int .i64 t.off.hi]) 3 W v [⟨-1, ⟨0, 0⟩⟩, ⟨0, ⟨0, 0⟩⟩, ⟨1, ⟨0, 0⟩⟩]) => l04_tuned_any 1 ⟨5, 100, ⟨-1, 1⟩, ⟨0, 0⟩, []⟩ [⟨-1, ⟨0, 0⟩⟩, ⟨0, ⟨0, 0⟩⟩, ⟨1, ⟨0, 0⟩⟩] rfl ex_tunes1.1 ex_tunes1.2 (List.cons_ne_nil _ _) v W hv
  have hj1 := fun (v : Value) (W : World) (hv : IsRow (fun x : Int => [.int .u8 x]) 1 W v [2, 2, 2, 2, 2]) (hc : CondsAt W) => l04_judged_any 307319 42 2 [2, 2, 2, 2, 2] v W ex_judged2 hv hc
  have hj2 := fun (v : Value) (W : World) (hv : IsRow (fun x : Int => [.int .u8 x]) 1 W v [0, 2, 1, 2, 2]) (hc : CondsAt W) => l04_judged_any 306781 40 0 [0, 2, 1, 2, 2] v W ex_judged3 hv hc
  have HTU := Lib.hid htu
  clear htu
  have HJ1 := Lib.hid hj1
  clear hj1
  have HJ2 := Lib.hid hj2
  clear hj2
  go_enter Tryd.func3, Tryd.ntmps3
  go_upto_region 3 with (first
    | (go_at_call 4; refine (l04_alive_any _ (HCD.out.mono exq)).mono ?_; rintro e w' ⟨rfl, X0, rfl⟩)
    | (go_at_call 5; (have hrow := (row_lit (enc := fun t : Kr.Tune => [.int .i64 t.gain, .int .i64 t.off.lo, .int .i64 t.off.hi]) (k := 3) (World.ext w X0) #[.int .i64 (-1), .int .i64 0, .int .i64 0, .int .i64 0, .int .i64 0, .int .i64 0, .int .i64 1, .int .i64 0, .int .i64 0] 27 [⟨-1, ⟨0, 0⟩⟩, ⟨0, ⟨0, 0⟩⟩, ⟨1, ⟨0, 0⟩⟩] _ 3 rfl rfl rfl (fun _ _ => rfl) (by decide)).2); refine (HTU.out _ _ hrow).mono ?_; rintro e w' ⟨rfl, X1, rfl⟩; clear hrow)
    | (go_at_call 6; (have hh := X2); clear hh; (have hrow := (row_lit (enc := fun x : Int => [.int .u8 x]) (k := 1) (World.ext _ X2) #[.int .u8 0, .int .u8 2, .int .u8 1, .int .u8 2, .int .u8 2] 5 [0, 2, 1, 2, 2] _ 5 rfl rfl rfl (fun _ _ => rfl) (by decide)).2); refine (HJ2.out _ _ hrow (HCD.out.mono exq)).mono ?_; rintro e w' ⟨rfl, X3, rfl⟩; clear hrow)
    | (go_at_call 6; (have hrow := (row_lit (enc := fun x : Int => [.int .u8 x]) (k := 1) (World.ext _ X1) #[.int .u8 2, .int .u8 2, .int .u8 2, .int .u8 2, .int .u8 2] 5 [2, 2, 2, 2, 2] _ 5 rfl rfl rfl (fun _ _ => rfl) (by decide)).2); refine (HJ1.out _ _ hrow (HCD.out.mono exq)).mono ?_; rintro e w' ⟨rfl, X2, rfl⟩; clear hrow))
  rename_i i9_1_1 i9_1_2 i9_1_3
  revert w HCD HTU HJ1 HJ2 i9_1_1 X0 X1 X2 X3 i9_1_2 i9_1_3
  exact HG.out
end Go.Proofs.YtfjkiemjmnnbkaaDoor

/-
  The law ScaleExamples: its walk.
-/
namespace Go.Proofs.YtfjkiemjmnnbkaaDoor
open Go.RowKit Kr
set_option linter.unusedSimpArgs false

set_option maxRecDepth 100000 in
set_option maxHeartbeats 8000000 in
noncomputable def l04ex_any_c2 : { G : Prop // G → l04ex_any_c1.val } := by
  apply Subtype.mk
  case property =>
  intro hG
  have HG := Lib.hid hG
  clear hG
  intro w HCD HTU HJ1 HJ2 i9_1_1 X0 X1 X2 X3 i9_1_2 i9_1_3
  obtain ⟨A, hA⟩ : ∃ A, World.ext _ X3 = A := ⟨_, rfl⟩
  have hwA : w.Exts A := by rw [← hA]; exact exq
  rw [hA]
  clear hA
  have hrd : reads ⟨3, 10, ⟨-10, 10⟩, ⟨-20, 20⟩, [⟨100000, 100000⟩]⟩ 95000 = (⟨95000, 95000⟩, 0) := ex_reads0
  have HRD := Lib.hid hrd
  clear hrd
  have hfb := field_bay
  go_upto_region 4 with (first
    | (go_at_call 8; refine (l04_bay_own _).mono ?_; rintro e w' ⟨t0, b0, rfl, ⟨h0, h1⟩, h2, X11, rfl⟩; (have c0 := LaysAs.cell h1 0 _ rfl); (have c1 := LaysAs.cell h1 1 _ rfl); (have c2 := LaysAs.cell h1 2 _ rfl); (have c3 := LaysAs.cell h1 3 _ rfl); (have c4 := LaysAs.cell h1 4 _ rfl); (have c5 := LaysAs.cell h1 5 _ rfl); (have c6 := LaysAs.cell h1 6 _ rfl); (have nc := Lays.of_cell c0); (have HT := Lib.hid h0); clear h0 h1)
    | (go_at_call 7; (have hh := scale_Reads_any ⟨3, 10, ⟨-10, 10⟩, ⟨-20, 20⟩, [⟨100000, 100000⟩]⟩ (.slice (some ⟨t0, 0, none⟩) 1 1) 95000 (World.ext A X11) (trial_of HT.out)); rw [HRD.out] at hh; refine hh.mono ?_; clear hh; rintro e w' ⟨rfl, X12, rfl⟩))
  refine wp_region_ext (by kernel_rfl) (by kernel_rfl) ?_
  repeat (go_big_quiet_step ((go_at_call 9; exact Calls.in_ext (l04_span_any _ _ _))))
  refine wpQuiet_nil ?_
  rintro _ ⟨X, rfl⟩
  go_upto_region 6 with (fail)
  clear hfb
  rename_i i9_2_1 i9_2_2
  revert w HCD HTU HJ1 HJ2 i9_1_1 X0 X1 X2 X3 A hwA HRD t0 b0 h2 X11 c0 c1 c2 c3 c4 c5 c6 nc HT X12 X i9_2_1 i9_2_2
  exact HG.out
end Go.Proofs.YtfjkiemjmnnbkaaDoor

/-
  The law ScaleExamples: its walk.
-/
namespace Go.Proofs.YtfjkiemjmnnbkaaDoor
open Go.RowKit Kr
set_option linter.unusedSimpArgs false

set_option maxRecDepth 100000 in
set_option maxHeartbeats 8000000 in
noncomputable def l04ex_any_c3 : { G : Prop // G → l04ex_any_c2.val } := by
  apply Subtype.mk
  case property =>
  intro hG
  have HG := Lib.hid hG
  clear hG
  intro w HCD HTU HJ1 HJ2 i9_1_1 X0 X1 X2 X3 A hwA HRD t0 b0 h2 X11 c0 c1 c2 c3 c4 c5 c6 nc HT X12 X i9_2_1 i9_2_2
  obtain ⟨W0, hW0⟩ : ∃ W, World.ext _ X = W := ⟨_, rfl⟩
  have hA0 : A.Exts W0 := by rw [← hW0]; exact exq
  rw [hW0]
  clear hW0 c0 c1 c2 c3 c4 c5 c6 nc HT HRD h2
  have hwW := hwA.trans hA0
  go_upto_region 7 with (first
    | (go_at_call 8; (have hh := HQ1); clear hh; refine (l04_bay_own _).mono ?_; rintro e w' ⟨t4, b4, rfl, h4, k4, X8, rfl⟩; (have HQ4 := Lib.hid h4); clear h4)
    | (go_at_call 8; refine (l04_bay_own _).mono ?_; rintro e w' ⟨t1, b1, rfl, h1, k1, X5, rfl⟩; (have HQ1 := Lib.hid h1); clear h1)
    | (go_at_call 10; (have hh := HQ2); clear hh; refine (l04_gear_own _).mono ?_; rintro e w' ⟨l3, rfl, h3, k3, X7, rfl⟩; (have HQ3 := Lib.hid h3); clear h3; dsimp only [gearCs])
    | (go_at_call 10; refine (l04_gear_own _).mono ?_; rintro e w' ⟨l2, rfl, h2, k2, X6, rfl⟩; (have HQ2 := Lib.hid h2); clear h2; dsimp only [gearCs]))
  rename_i i9_3_1 i9_3_2
  revert w HCD HTU HJ1 HJ2 i9_1_1 X0 X1 X2 X3 A hwA t0 b0 X11 X12 X W0 hA0 hwW t1 b1 k1 X5 HQ1 l2 k2 X6 HQ2 l3 k3 X7 HQ3 t4 b4 k4 X8 HQ4 i9_3_1 i9_3_2
  exact HG.out
end Go.Proofs.YtfjkiemjmnnbkaaDoor

/-
  The law ScaleExamples: its walk.
-/
namespace Go.Proofs.YtfjkiemjmnnbkaaDoor
open Go.RowKit Kr
set_option linter.unusedSimpArgs false

set_option maxRecDepth 100000 in
set_option maxHeartbeats 8000000 in
noncomputable def l04ex_any_c4 : { G : Prop // G → l04ex_any_c3.val } := by
  apply Subtype.mk
  case property =>
  intro hG
  have HG := Lib.hid hG
  clear hG
  intro w HCD HTU HJ1 HJ2 i9_1_1 X0 X1 X2 X3 A hwA t0 b0 X11 X12 X W0 hA0 hwW t1 b1 k1 X5 HQ1 l2 k2 X6 HQ2 l3 k3 X7 HQ3 t4 b4 k4 X8 HQ4 i9_3_1 i9_3_2
  have f1 := (BxAt.nil W0).more (W' := World.ext W0 X5) ⟨X5, rfl⟩ (ys := [⟨b1, 34, bayCs 10 (.slice (some ⟨t1, 0, none⟩) 1 1)⟩, ⟨t1, 48, [.int .i64 100000, .int .i64 100000]⟩]) (fun b hb => by
    simp only [List.mem_cons, List.not_mem_nil, or_false] at hb
    rcases hb with rfl | rfl
    · exact ⟨HQ1.out.2, by dsimp only; omega⟩
    · exact ⟨HQ1.out.1, by dsimp only; omega⟩) (by simp; omega)
  have f2 := f1.more (W' := World.ext _ X6) ⟨X6, rfl⟩ (ys := [⟨l2, 46, loadCs 95000⟩, ⟨l2 + 1, 3, [.int .i64 85, .int .i64 88]⟩, ⟨l2 + 1 + 1, 3, [.int .i64 410, .int .i64 414]⟩]) (fun b hb => by
    simp only [List.mem_cons, List.not_mem_nil, or_false] at hb
    rcases hb with rfl | rfl | rfl
    · exact ⟨HQ2.out.1, by dsimp only; omega⟩
    · exact ⟨HQ2.out.2.1, by dsimp only; omega⟩
    · exact ⟨HQ2.out.2.2, by dsimp only; omega⟩) (by simp; omega)
  have f3 := f2.more (W' := World.ext _ X7) ⟨X7, rfl⟩ (ys := [⟨l3, 46, loadCs 95000⟩, ⟨l3 + 1, 3, [.int .i64 85, .int .i64 88]⟩, ⟨l3 + 1 + 1, 3, [.int .i64 410, .int .i64 414]⟩]) (fun b hb => by
    simp only [List.mem_cons, List.not_mem_nil, or_false] at hb
    rcases hb with rfl | rfl | rfl
    · exact ⟨HQ3.out.1, by dsimp only; omega⟩
    · exact ⟨HQ3.out.2.1, by dsimp only; omega⟩
    · exact ⟨HQ3.out.2.2, by dsimp only; omega⟩) (by simp; omega)
  have f4 := f3.more (W' := World.ext _ X8) ⟨X8, rfl⟩ (ys := [⟨b4, 34, bayCs 10 (.slice (some ⟨t4, 0, none⟩) 1 1)⟩]) (fun b hb => by
    rw [List.mem_singleton.1 hb]
    exact ⟨HQ4.out.2, by dsimp only; omega⟩) (List.pairwise_singleton _ _)
  have g4 := HQ4.out.1
  have ht4 : ∀ b ∈ ([⟨b1, 34, bayCs 10 (.slice (some ⟨t1, 0, none⟩) 1 1)⟩, ⟨t1, 48, [.int .i64 100000, .int .i64 100000]⟩, ⟨l2, 46, loadCs 95000⟩, ⟨l2 + 1, 3, [.int .i64 85, .int .i64 88]⟩, ⟨l2 + 1 + 1, 3, [.int .i64 410, .int .i64 414]⟩, ⟨l3, 46, loadCs 95000⟩, ⟨l3 + 1, 3, [.int .i64 85, .int .i64 88]⟩, ⟨l3 + 1 + 1, 3, [.int .i64 410, .int .i64 414]⟩] : List Bx), b.p < t4 := fun b hb => by
    have h1 := (f3.bo b (by simpa using hb)).1.lt
    omega
  have hlt4 := g4.lt
  obtain ⟨W4, hW4⟩ : ∃ W, World.ext _ X8 = W := ⟨_, rfl⟩
  rw [hW4] at f4 g4 hlt4 ⊢
  obtain ⟨p, hp⟩ : ∃ p, W4.heap.size = p := ⟨_, rfl⟩
  have f8 := (((f4.new [.slice (some ⟨b1, 0, none⟩) 2 2] 37).new [.slice (some ⟨l2, 0, none⟩) 2 2, .int .i64 2000, .int .i64 50, .int .i64 2, .slice (some ⟨l2 + 1, 0, none⟩) 2 2, .slice (some ⟨l2 + 1 + 1, 0, none⟩) 2 2, .int .i64 5, .bool true] 43).new [.slice (some ⟨l3, 0, none⟩) 2 2, .int .i64 2000, .int .i64 50, .int .i64 2, .slice (some ⟨l3 + 1, 0, none⟩) 2 2, .slice (some ⟨l3 + 1 + 1, 0, none⟩) 2 2, .int .i64 5, .bool true] 43).new [.slice (some ⟨b4, 0, none⟩) 2 2] 37
  have g8 := g4.exts (w' := World.alloc (World.alloc (World.alloc (World.alloc W4 (.cells #[.slice (some ⟨b1, 0, none⟩) 2 2] 37)) (.cells #[.slice (some ⟨l2, 0, none⟩) 2 2, .int .i64 2000, .int .i64 50, .int .i64 2, .slice (some ⟨l2 + 1, 0, none⟩) 2 2, .slice (some ⟨l2 + 1 + 1, 0, none⟩) 2 2, .int .i64 5, .bool true] 43)) (.cells #[.slice (some ⟨l3, 0, none⟩) 2 2, .int .i64 2000, .int .i64 50, .int .i64 2, .slice (some ⟨l3 + 1, 0, none⟩) 2 2, .slice (some ⟨l3 + 1 + 1, 0, none⟩) 2 2, .int .i64 5, .bool true] 43)) (.cells #[.slice (some ⟨b4, 0, none⟩) 2 2] 37)) exq
  simp only [List.nil_append, List.cons_append, World.size_alloc, hp] at f8
  rw [hp] at hlt4 ⊢
  obtain ⟨W6, hW6⟩ : ∃ W, World.alloc (World.alloc (World.alloc (World.alloc W4 (.cells #[.slice (some ⟨b1, 0, none⟩) 2 2] 37)) (.cells #[.slice (some ⟨l2, 0, none⟩) 2 2, .int .i64 2000, .int .i64 50, .int .i64 2, .slice (some ⟨l2 + 1, 0, none⟩) 2 2, .slice (some ⟨l2 + 1 + 1, 0, none⟩) 2 2, .int .i64 5, .bool true] 43)) (.cells #[.slice (some ⟨l3, 0, none⟩) 2 2, .int .i64 2000, .int .i64 50, .int .i64 2, .slice (some ⟨l3 + 1, 0, none⟩) 2 2, .slice (some ⟨l3 + 1 + 1, 0, none⟩) 2 2, .int .i64 5, .bool true] 43)) (.cells #[.slice (some ⟨b4, 0, none⟩) 2 2] 37) = W := ⟨_, rfl⟩
  rw [hW6] at f8 g8 ⊢
  have n1 := ht4 _ (List.mem_of_getElem? (i := 0) rfl)
  have n2 := ht4 _ (List.mem_of_getElem? (i := 2) rfl)
  dsimp only at n1 n2
  clear hW6 hW4 f1 f2 f3 f4 g4
  have c0 := LaysAs.cell (f8.box 9 rfl) 0 _ rfl
  have c1 := LaysAs.cell (f8.box 0 rfl) 1 _ rfl
  have r1 := lays_free (i := 1) (f8.box 0 rfl)
  dsimp only at c0 c1 r1
  have m0 := Lays.of_cell c0
  have m1 := Lays.of_cell c1
  have F8 := Lib.hid f8
  clear f8
  have G8 := Lib.hid g8
  clear g8
  have HT4 := Lib.hid ht4
  clear ht4
  go_upto_region 8 with (fail)
  rename_i i9_4_1 i9_4_2
  revert w HCD HTU HJ1 HJ2 i9_1_1 X0 X1 X2 X3 A hwA t0 b0 X11 X12 X W0 hA0 hwW t1 b1 k1 X5 HQ1 l2 k2 X6 HQ2 l3 k3 X7 HQ3 t4 b4 k4 X8 HQ4 W4 p hlt4 hp W6 n1 n2 c0 c1 r1 m0 m1 F8 G8 HT4 i9_4_1 i9_4_2
  exact HG.out
end Go.Proofs.YtfjkiemjmnnbkaaDoor

/-
  The law ScaleExamples: its walk.
-/
namespace Go.Proofs.YtfjkiemjmnnbkaaDoor
open Go.RowKit Kr
set_option linter.unusedSimpArgs false

set_option maxRecDepth 100000 in
set_option maxHeartbeats 8000000 in
noncomputable def l04ex_any_c5 : { G : Prop // G → l04ex_any_c4.val } := by
  apply Subtype.mk
  case property =>
  intro hG
  have HG := Lib.hid hG
  clear hG
  intro w HCD HTU HJ1 HJ2 i9_1_1 X0 X1 X2 X3 A hwA t0 b0 X11 X12 X W0 hA0 hwW t1 b1 k1 X5 HQ1 l2 k2 X6 HQ2 l3 k3 X7 HQ3 t4 b4 k4 X8 HQ4 W4 p hlt4 hp W6 n1 n2 c0 c1 r1 m0 m1 F8 G8 HT4 i9_4_1 i9_4_2
  have f9 := F8.out.store 0 1 rfl (.int .i64 0)
  simp only [List.set_cons_zero, List.set_cons_succ] at f9
  have g9 := laysAs_other (a := ⟨b1, 1, none⟩) G8.out (by dsimp only; omega) (.int .i64 0)
  obtain ⟨W7, hW7⟩ : ∃ W, World.setCell W6 ⟨b1, 1, none⟩ (.int .i64 0) = W := ⟨_, rfl⟩
  rw [hW7] at f9 g9 ⊢
  clear hW7 c0 c1 r1 m0 m1 F8 G8
  have c0 := LaysAs.cell (f9.box 10 rfl) 0 _ rfl
  have c1 := LaysAs.cell (f9.box 2 rfl) 1 _ rfl
  have r1 := lays_free (i := 1) (f9.box 2 rfl)
  dsimp only at c0 c1 r1
  have m0 := Lays.of_cell c0
  have m1 := Lays.of_cell c1
  have F9 := Lib.hid f9
  clear f9
  have G9 := Lib.hid g9
  clear g9
  go_upto_region 9 with (fail)
  have f10 := F9.out.store 2 1 rfl (.int .i64 95005)
  simp only [List.set_cons_zero, List.set_cons_succ] at f10
  have g10 := laysAs_other (a := ⟨l2, 1, none⟩) G9.out (by dsimp only; omega) (.int .i64 95005)
  obtain ⟨W8, hW8⟩ : ∃ W, World.setCell W7 ⟨l2, 1, none⟩ (.int .i64 95005) = W := ⟨_, rfl⟩
  rw [hW8] at f10 g10 ⊢
  clear hW8 c0 c1 r1 m0 m1 F9 G9
  have c5 := LaysAs.cell (f10.box 11 rfl) 5 _ rfl
  have r5 := lays_free (i := 5) (f10.box 11 rfl)
  dsimp only at c5 r5
  have m5 := Lays.of_cell c5
  have hlp := (f10.box 11 rfl).lt
  dsimp only at hlp
  have F10 := Lib.hid f10
  clear f10
  have G10 := Lib.hid g10
  clear g10
  go_upto_region 10 with (fail)
  have f11 := (F10.out.store 11 5 rfl (.slice (some ⟨W8.heap.size, 0, none⟩) 2 2)).new [.int .i64 400, .int .i64 411] 3
  simp only [List.set_cons_zero, List.set_cons_succ, List.cons_append, List.nil_append, World.size_setCell] at f11
  have g11 := (laysAs_other (a := ⟨p + 1 + 1, 5, none⟩) G10.out (by dsimp only; omega) (.slice (some ⟨W8.heap.size, 0, none⟩) 2 2)).exts (w' := World.alloc (World.setCell W8 ⟨p + 1 + 1, 5, none⟩ (.slice (some ⟨W8.heap.size, 0, none⟩) 2 2)) (.cells #[.int .i64 400, .int .i64 411] 3)) exq
  obtain ⟨n9, hn9⟩ : ∃ n, W8.heap.size = n := ⟨_, rfl⟩
  have hn4 := G10.out.lt
  rw [hn9] at f11 g11 hn4 ⊢
  obtain ⟨W9, hW9⟩ : ∃ W, World.alloc (World.setCell W8 ⟨p + 1 + 1, 5, none⟩ (.slice (some ⟨n9, 0, none⟩) 2 2)) (.cells #[.int .i64 400, .int .i64 411] 3) = W := ⟨_, rfl⟩
  rw [hW9] at f11 g11 ⊢
  clear hW9 hn9 c5 r5 m5 F10 G10 hlp
  have F11 := Lib.hid f11
  clear f11
  have G11 := Lib.hid g11
  clear g11
  rename_i i9_5_1 i9_5_2
  revert w HCD HTU HJ1 HJ2 i9_1_1 X0 X1 X2 X3 A hwA t0 b0 X11 X12 X W0 hA0 hwW t1 b1 k1 X5 HQ1 l2 k2 X6 HQ2 l3 k3 X7 HQ3 t4 b4 k4 X8 HQ4 W4 p hlt4 hp W6 n1 n2 HT4 W7 W8 i9_5_1 i9_5_2 n9 hn4 W9 F11 G11
  exact HG.out
end Go.Proofs.YtfjkiemjmnnbkaaDoor

/-
  The law ScaleExamples: its walk.
-/
namespace Go.Proofs.YtfjkiemjmnnbkaaDoor
open Go.RowKit Kr
set_option linter.unusedSimpArgs false

set_option maxRecDepth 100000 in
set_option maxHeartbeats 8000000 in
noncomputable def l04ex_any_c6 : { G : Prop // G → l04ex_any_c5.val } := by
  apply Subtype.mk
  case property =>
  intro hG
  have HG := Lib.hid hG
  clear hG
  intro w HCD HTU HJ1 HJ2 i9_1_1 X0 X1 X2 X3 A hwA t0 b0 X11 X12 X W0 hA0 hwW t1 b1 k1 X5 HQ1 l2 k2 X6 HQ2 l3 k3 X7 HQ3 t4 b4 k4 X8 HQ4 W4 p hlt4 hp W6 n1 n2 HT4 W7 W8 i9_5_1 i9_5_2 n9 hn4 W9 F11 G11
  have v0 := HT4.out _ (List.mem_of_getElem? (i := 0) rfl)
  have v1 := HT4.out _ (List.mem_of_getElem? (i := 1) rfl)
  have v2 := HT4.out _ (List.mem_of_getElem? (i := 2) rfl)
  have v3 := HT4.out _ (List.mem_of_getElem? (i := 3) rfl)
  have v4 := HT4.out _ (List.mem_of_getElem? (i := 4) rfl)
  have v5 := HT4.out _ (List.mem_of_getElem? (i := 5) rfl)
  have v6 := HT4.out _ (List.mem_of_getElem? (i := 6) rfl)
  have v7 := HT4.out _ (List.mem_of_getElem? (i := 7) rfl)
  dsimp only at v0 v1 v2 v3 v4 v5 v6 v7
  obtain ⟨bx, hf, x0, x1, x2, x3, x4, x5, x6, x8, x9, x10, x11, x12, x13, hne⟩ : ∃ bx : List Bx, BxAt W0 W9 bx ∧ bx[0]? = some ⟨b1, 34, bayCs 0 (.slice (some ⟨t1, 0, none⟩) 1 1)⟩ ∧ bx[1]? = some ⟨t1, 48, [.int .i64 100000, .int .i64 100000]⟩ ∧
      bx[2]? = some ⟨l2, 46, loadCs 95005⟩ ∧ bx[3]? = some ⟨l2 + 1, 3, [.int .i64 85, .int .i64 88]⟩ ∧ bx[4]? = some ⟨l2 + 1 + 1, 3, [.int .i64 410, .int .i64 414]⟩ ∧ bx[5]? = some ⟨l3, 46, loadCs 95000⟩ ∧ bx[6]? = some ⟨l3 + 1, 3, [.int .i64 85, .int .i64 88]⟩ ∧
      bx[8]? = some ⟨b4, 34, bayCs 10 (.slice (some ⟨t4, 0, none⟩) 1 1)⟩ ∧ bx[9]? = some ⟨p, 37, [.slice (some ⟨b1, 0, none⟩) 2 2]⟩ ∧
      bx[10]? = some ⟨p + 1, 43, [.slice (some ⟨l2, 0, none⟩) 2 2, .int .i64 2000, .int .i64 50, .int .i64 2, .slice (some ⟨l2 + 1, 0, none⟩) 2 2, .slice (some ⟨l2 + 1 + 1, 0, none⟩) 2 2, .int .i64 5, .bool true]⟩ ∧
      bx[11]? = some ⟨p + 1 + 1, 43, [.slice (some ⟨l3, 0, none⟩) 2 2, .int .i64 2000, .int .i64 50, .int .i64 2, .slice (some ⟨l3 + 1, 0, none⟩) 2 2, .slice (some ⟨n9, 0, none⟩) 2 2, .int .i64 5, .bool true]⟩ ∧
      bx[12]? = some ⟨p + 1 + 1 + 1, 37, [.slice (some ⟨b4, 0, none⟩) 2 2]⟩ ∧ bx[13]? = some ⟨n9, 3, [.int .i64 400, .int .i64 411]⟩ ∧ ∀ b ∈ bx, b.p ≠ t4 :=
    ⟨_, F11.out, rfl, rfl, rfl, rfl, rfl, rfl, rfl, rfl, rfl, rfl, rfl, rfl, rfl, fun b hb => by
      simp only [List.mem_cons, List.not_mem_nil, or_false] at hb
      rcases hb with rfl | rfl | rfl | rfl | rfl | rfl | rfl | rfl | rfl | rfl | rfl | rfl | rfl | rfl <;> (dsimp only; omega)⟩
  have hA4 : W0.heap.size ≤ t4 := by omega
  clear v0 v1 v2 v3 v4 v5 v6 v7 F11 HT4
  haveI : Nonempty (GW (fun W => BxAt W0 W bx)) := ⟨⟨W9, hf⟩⟩
  have kb := fun (Y : GW (fun W => BxAt W0 W bx)) => LaysAs.cell (Y.h.box 12 x12) 0 _ rfl
  have k6 := fun (Y : GW (fun W => BxAt W0 W bx)) => LaysAs.cell (Y.h.box 8 x8) 6 _ rfl
  dsimp only at kb k6
  have hown0 := own_of G11.out
  have HNE := Lib.hid hne
  clear hne
  have X0_ := Lib.hid x0
  clear x0
  have X1_ := Lib.hid x1
  clear x1
  have X2_ := Lib.hid x2
  clear x2
  have X3_ := Lib.hid x3
  clear x3
  have X4_ := Lib.hid x4
  clear x4
  have X5_ := Lib.hid x5
  clear x5
  have X6_ := Lib.hid x6
  clear x6
  have X8_ := Lib.hid x8
  clear x8
  have X9_ := Lib.hid x9
  clear x9
  have X10_ := Lib.hid x10
  clear x10
  have X11_ := Lib.hid x11
  clear x11
  have X12_ := Lib.hid x12
  clear x12
  have X13_ := Lib.hid x13
  clear x13
  refine wp_region_inv 12 (fun i => i == 8 || i == 9) (ExF bx t4) (fun W => BxAt W0 W bx) (ExI W0 bx t4)
    (by kernel_rfl) (fun ν => by kernel_rfl) (by kernel_rfl) (by kernel_rfl) (by kernel_rfl) (by kernel_rfl) (fun _ _ h => h.1) (fun listed W i hi hU h => h.same (fun e => by subst e; simp at hU)) ⟨hf.exts (World.Exts.refl W9).drew, fun _ => ownsRow_exts hown0 (World.Exts.refl W9).drew⟩ ?_
  apply Exists.intro
  refine ⟨fun ν L hL => ?_, fun c oc hc hU ν listed W hsz hInv hun hΦ => ?_, fun ν listed W hInv hall hΦ => ?_⟩
  · simp only [modU, cOp, List.mapIdx_cons, List.mapIdx_nil, Nat.zero_add, Nat.reduceAdd, Nat.reduceBEq, Bool.or_false, Bool.false_or, Bool.or_true, Bool.true_or, Bool.or_self, Bool.false_eq_true, if_false, if_true, List.take_succ_cons, List.take_zero]
    repeat (go_big_quiet_step (fail))
    exact wpQuiet_nil hL
  · simp at hU
    have hlt := (hInv.1.box 8 X8_.out).lt
    dsimp only at hlt
    rcases hU with rfl | rfl
    · simp only [List.getElem?_cons_succ, List.getElem?_cons_zero, Option.some.injEq] at hc
      subst hc
      have hl := hInv.lit (by omega)
      exact givesX (a := 100000) (b := 100100) rfl rfl ⟨hl.1, hl.2, fun _ _ _ _ h => h.exts ((World.Exts.refl W).alloc _)⟩
    · simp only [List.getElem?_cons_succ, List.getElem?_cons_zero, Option.some.injEq] at hc
      subst hc
      obtain ⟨nb, hν, hlay, hnb⟩ := (hΦ 8 rfl ⟨⟨8, .data⟩, by simp, rfl, rfl⟩).1 rfl
      refine gives_append (.tmp 88) (.tmp 90) elem_Trial rfl rfl (hInv.2 hun) [.int .i64 100000, .int .i64 100100] nb hν (fun j u hj => LaysAs.cell hlay j u hj) rfl (fun u hu => by simp at hu; rcases hu with rfl | rfl <;> rfl) (by decide) (by decide) (by omega) ?_
      intro v' w' hown happ
      obtain ⟨d1, d2, d3⟩ := hInv.app (ν := ν) hA4 HNE.out hun hown happ
      exact ⟨d1, d2, fun c' _ _ hl h => d3 c' hl h⟩
  simp only [List.drop_succ_cons, List.drop_zero]
  obtain ⟨h9, hap⟩ := (hΦ 9 (by decide) rfl).2 rfl
  obtain ⟨qv, cv, ev⟩ := owns_len h9
  have f := hInv.1
  clear hInv hΦ hall kb k6 hown0 hf this
  generalize ν 9 = vn at *
  subst ev
  have s0 := LaysAs.cell (f.box 8 X8_.out) 6 _ rfl
  have r0 := lays_free (i := 6) (f.box 8 X8_.out)
  dsimp only at s0 r0
  have m0 := Lays.of_cell s0
  have hb4 := hap _ (List.mem_of_getElem? X8_.out)
  dsimp only at hb4
  have f2 := f.store 8 6 X8_.out (.slice qv 2 cv)
  have h2 := h9.kept (grown_set W b4 6 (.slice qv 2 cv)) (.inr hb4)
  have F2 := Lib.hid f2
  clear f2
  have H2 := Lib.hid h2
  clear h2
  have HAP := Lib.hid hap
  clear hap
  clear f h9 hb4
  go_upto_region 11 with (fail)
  rename_i i9_6_1 i9_6_2
  revert w HCD HTU HJ1 HJ2 i9_1_1 X0 X1 X2 X3 A hwA t0 b0 X11 X12 X W0 hA0 hwW t1 b1 k1 X5 HQ1 l2 k2 X6 HQ2 l3 k3 X7 HQ3 t4 b4 k4 X8 HQ4 W4 p hlt4 hp W6 n1 n2 W7 W8 n9 hn4 W9 G11 bx hA4 HNE X0_ X1_ X2_ X3_ X4_ X5_ X6_ X8_ X9_ X10_ X11_ X12_ X13_ ν listed W qv cv s0 r0 m0 F2 H2 HAP i9_6_1 i9_6_2
  exact HG.out
end Go.Proofs.YtfjkiemjmnnbkaaDoor

/-
  The law ScaleExamples: its walk.
-/
namespace Go.Proofs.YtfjkiemjmnnbkaaDoor
open Go.RowKit Kr
set_option linter.unusedSimpArgs false

set_option maxRecDepth 100000 in
set_option maxHeartbeats 8000000 in
noncomputable def l04ex_any_c7 : { G : Prop // G → l04ex_any_c6.val } := by
  apply Subtype.mk
  case property =>
  intro hG
  have HG := Lib.hid hG
  clear hG
  intro w HCD HTU HJ1 HJ2 i9_1_1 X0 X1 X2 X3 A hwA t0 b0 X11 X12 X W0 hA0 hwW t1 b1 k1 X5 HQ1 l2 k2 X6 HQ2 l3 k3 X7 HQ3 t4 b4 k4 X8 HQ4 W4 p hlt4 hp W6 n1 n2 W7 W8 n9 hn4 W9 G11 bx hA4 HNE X0_ X1_ X2_ X3_ X4_ X5_ X6_ X8_ X9_ X10_ X11_ X12_ X13_ ν listed W qv cv s0 r0 m0 F2 H2 HAP i9_6_1 i9_6_2
  have f := F2.out
  have h := H2.out
  obtain ⟨V, hV⟩ : ∃ X, World.setCell W ⟨b4, 6, none⟩ (.slice qv 2 cv) = X := ⟨_, rfl⟩
  rw [hV] at f h ⊢
  have y := fun (j : Nat) (b : Bx) (hj : 8 ≠ j) (hb : bx[j]? = some b) => f.box j (b := b) (by rw [List.getElem?_set_ne hj]; exact hb)
  have z8 := f.box 8 (b := ⟨b4, 34, bayCs 10 (.slice qv 2 cv)⟩) (by rw [List.getElem?_set_self (lt_of_some X8_.out)]; rfl)
  have hwV := hwW.trans f.ext
  have hbt : BayIs V (.slice (some ⟨b1, 0, none⟩) 2 2) exTorn := bay_of (y 0 _ (by decide) X0_.out) (trial_of (y 1 _ (by decide) X1_.out))
  have hgo : GearAt V (exOdd, .slice (some ⟨l2, 0, none⟩) 2 2, .slice (some ⟨l2 + 1, 0, none⟩) 2 2, .slice (some ⟨l2 + 1 + 1, 0, none⟩) 2 2) := gear_of (y 2 _ (by decide) X2_.out) (y 3 _ (by decide) X3_.out) (y 4 _ (by decide) X4_.out)
  have hgd : GearAt V (exDeaf, .slice (some ⟨l3, 0, none⟩) 2 2, .slice (some ⟨l3 + 1, 0, none⟩) 2 2, .slice (some ⟨n9, 0, none⟩) 2 2) := gear_of (y 5 _ (by decide) X5_.out) (y 6 _ (by decide) X6_.out) (y 13 _ (by decide) X13_.out)
  have htl := trials_of h
  have hbl : BayIs V (.slice (some ⟨b4, 0, none⟩) 2 2) exLost := bay_of z8 htl
  have y9 := y 9 _ (by decide) X9_.out
  have y10 := y 10 _ (by decide) X10_.out
  have y11 := y 11 _ (by decide) X11_.out
  have y12 := y 12 _ (by decide) X12_.out
  dsimp only [Bx.at] at y9 y10 y11 y12 z8
  have x3 := LaysAs.cell y9 0 _ rfl
  have x6 := LaysAs.cell y12 0 _ rfl
  have o0 := LaysAs.cell y10 0 _ rfl
  have o1 := LaysAs.cell y10 1 _ rfl
  have o2 := LaysAs.cell y10 2 _ rfl
  have o3 := LaysAs.cell y10 3 _ rfl
  have o4 := LaysAs.cell y10 4 _ rfl
  have o5 := LaysAs.cell y10 5 _ rfl
  have o6 := LaysAs.cell y10 6 _ rfl
  have o7 := LaysAs.cell y10 7 _ rfl
  have d0 := LaysAs.cell y11 0 _ rfl
  have d1 := LaysAs.cell y11 1 _ rfl
  have d2 := LaysAs.cell y11 2 _ rfl
  have d3 := LaysAs.cell y11 3 _ rfl
  have d4 := LaysAs.cell y11 4 _ rfl
  have d5 := LaysAs.cell y11 5 _ rfl
  have d6 := LaysAs.cell y11 6 _ rfl
  have d7 := LaysAs.cell y11 7 _ rfl
  clear s0 r0 m0
  have s0 := LaysAs.cell z8 0 _ rfl
  have s1 := LaysAs.cell z8 1 _ rfl
  have s2 := LaysAs.cell z8 2 _ rfl
  have s3 := LaysAs.cell z8 3 _ rfl
  have s4 := LaysAs.cell z8 4 _ rfl
  have s5 := LaysAs.cell z8 5 _ rfl
  have s6 := LaysAs.cell z8 6 _ rfl
  have nx3 := Lays.of_cell x3
  have nx6 := Lays.of_cell x6
  have no := Lays.of_cell o0
  have nd := Lays.of_cell d0
  have ns := Lays.of_cell s0
  clear y y9 y10 y11 y12 z8 f h hV F2 H2 HAP X0_ X1_ X2_ X3_ X4_ X5_ X6_ X8_ X9_ X10_ X11_ X12_ X13_ HNE G11 hA4 hwW
  have HBT := Lib.hid hbt
  clear hbt
  have HGO := Lib.hid hgo
  clear hgo
  have HGD := Lib.hid hgd
  clear hgd
  have HBL := Lib.hid hbl
  clear hbl
  have HTL := Lib.hid htl
  clear htl
  revert w HCD HTU HJ1 HJ2 i9_1_1 X0 X1 X2 X3 A hwA t0 b0 X11 X12 X W0 hA0 t1 b1 k1 X5 HQ1 l2 k2 X6 HQ2 l3 k3 X7 HQ3 t4 b4 k4 X8 HQ4 W4 p hlt4 hp W6 n1 n2 W7 W8 n9 hn4 W9 bx ν listed W qv cv i9_6_1 i9_6_2 V hwV x3 x6 o0 o1 o2 o3 o4 o5 o6 o7 d0 d1 d2 d3 d4 d5 d6 d7 s0 s1 s2 s3 s4 s5 s6 nx3 nx6 no nd ns HBT HGO HGD HBL HTL
  exact HG.out
end Go.Proofs.YtfjkiemjmnnbkaaDoor

/-
  The law ScaleExamples: its walk.
-/
namespace Go.Proofs.YtfjkiemjmnnbkaaDoor
open Go.RowKit Kr
set_option linter.unusedSimpArgs false

set_option maxRecDepth 100000 in
set_option maxHeartbeats 8000000 in
noncomputable def l04ex_any_c8 : { G : Prop // G → l04ex_any_c7.val } := by
  apply Subtype.mk
  case property =>
  intro hG
  have HG := Lib.hid hG
  clear hG
  intro w HCD HTU HJ1 HJ2 i9_1_1 X0 X1 X2 X3 A hwA t0 b0 X11 X12 X W0 hA0 t1 b1 k1 X5 HQ1 l2 k2 X6 HQ2 l3 k3 X7 HQ3 t4 b4 k4 X8 HQ4 W4 p hlt4 hp W6 n1 n2 W7 W8 n9 hn4 W9 bx ν listed W qv cv i9_6_1 i9_6_2 V hwV x3 x6 o0 o1 o2 o3 o4 o5 o6 o7 d0 d1 d2 d3 d4 d5 d6 d7 s0 s1 s2 s3 s4 s5 s6 nx3 nx6 no nd ns HBT HGO HGD HBL HTL
  go_upto_region 12 with (go_at_call 11; refine (scale_Totals_is exTorn _ exOdd _ _ _ _ (HBT.out.mono exq) (HGO.out.mono exq)).mono ?_; simp only [ex_torn]; rintro e w' ⟨v1, rfl, -, X1, rfl⟩)
  rename_i i9_8_1 i9_8_2 i9_8_3
  revert w HCD HTU HJ1 HJ2 i9_1_1 X0 i9_8_1 X2 X3 A hwA t0 b0 X11 X12 X W0 hA0 t1 b1 k1 X5 HQ1 l2 k2 X6 HQ2 l3 k3 X7 HQ3 t4 b4 k4 X8 HQ4 W4 p hlt4 hp W6 n1 n2 W7 W8 n9 hn4 W9 bx ν listed W qv cv V hwV x3 x6 o0 o1 o2 o3 o4 o5 o6 o7 d0 d1 d2 d3 d4 d5 d6 d7 s0 s1 s2 s3 s4 s5 s6 nx3 nx6 no nd ns HBT HGO HGD HBL HTL v1 X1 i9_8_2 i9_8_3
  exact HG.out
end Go.Proofs.YtfjkiemjmnnbkaaDoor

/-
  The law ScaleExamples: its walk.
-/
namespace Go.Proofs.YtfjkiemjmnnbkaaDoor
open Go.RowKit Kr
set_option linter.unusedSimpArgs false

set_option maxRecDepth 100000 in
set_option maxHeartbeats 8000000 in
noncomputable def l04ex_any_c9 : { G : Prop // G → l04ex_any_c8.val } := by
  apply Subtype.mk
  case property =>
  intro hG
  have HG := Lib.hid hG
  clear hG
  intro w HCD HTU HJ1 HJ2 i9_1_1 X0 i9_8_1 X2 X3 A hwA t0 b0 X11 X12 X W0 hA0 t1 b1 k1 X5 HQ1 l2 k2 X6 HQ2 l3 k3 X7 HQ3 t4 b4 k4 X8 HQ4 W4 p hlt4 hp W6 n1 n2 W7 W8 n9 hn4 W9 bx ν listed W qv cv V hwV x3 x6 o0 o1 o2 o3 o4 o5 o6 o7 d0 d1 d2 d3 d4 d5 d6 d7 s0 s1 s2 s3 s4 s5 s6 nx3 nx6 no nd ns HBT HGO HGD HBL HTL v1 X1 i9_8_2 i9_8_3
  refine wp_region_callsK 7 (fun i => i == 0 || i == 2 || i == 3 || i == 4 || i == 5) (fun c v W => ExPh 0 90 91 2 92 5 41 c v W) (fun _ => none) (by kernel_rfl) (fun ν => by kernel_rfl) (by kernel_rfl) (by kernel_rfl) (by kernel_rfl) (by kernel_rfl) (by kernel_rfl) ?mono ?known ?_
  rotate_left 2
  apply Exists.intro
  refine ⟨fun ν hkn => ?want, fun ν hkn L hL => ?walk, fun c oc hc hU ν hkn W hE hΦ => ?calls, fun ν hkn W hE hΦ => ?tail⟩
  case walk =>
    repeat (first
      | (refine modTo_free rfl ?_; go_big_quiet_step (fail))
      | (refine modTo_call rfl rfl ?_; go_big_quiet_step (fail)))
    refine modTo_end ?_
    exact hL
  case want =>
    intro i oi hi hU
    simp at hU
    rcases hU with (((rfl | rfl) | rfl) | rfl) | rfl
    all_goals
      simp only [List.getElem?_cons_succ, List.getElem?_cons_zero, Option.some.injEq] at hi
      subst hi
      rfl
  case mono => exact fun c v W W' h hE => h.mono hE
  case known => exact fun c v W u h hk => by cases hk
  case calls =>
    clear hkn
    simp at hU
    rcases hU with (((rfl | rfl) | rfl) | rfl) | rfl
    all_goals
      simp only [List.getElem?_cons_succ, List.getElem?_cons_zero, Option.some.injEq] at hc
      subst hc
    · refine Oper.gives_fn (xs := []) rfl rfl rfl (enters_of Tryd.func8 (by kernel_rfl) rfl) ?_ rfl
      refine (l04_bay_any W).mono ?_
      rintro e W' ⟨v', rfl, h1, h2⟩
      exact ⟨_, rfl, h2, ExPh.bay (by decide) rfl h1⟩
    · obtain ⟨v0, hν0, hb0⟩ := (hΦ 0 rfl ⟨⟨0, .data⟩, by simp, rfl, rfl⟩).1 rfl
      generalize ν 0 = n0 at *
      subst hν0
      refine Oper.gives_fn rfl rfl rfl (enters_of Tryd.func11 (by kernel_rfl) rfl) ?_ rfl
      refine (scale_Totals_is exBay v0 exOdd _ _ _ W hb0 (HGO.out.mono (World.Exts.trans exq hE))).mono ?_
      simp only [ex_odd]
      rintro e W' ⟨v', rfl, h1, h2⟩
      exact ⟨_, rfl, h2, ExPh.two (.inl rfl) (by decide) rfl⟩
    · obtain ⟨u, hν2⟩ := (hΦ 2 rfl ⟨⟨2, .data⟩, by simp, rfl, rfl⟩).2.2.2.1 (.inl rfl)
      exact .inr ⟨ν 2, W, by kernel_rfl, World.Exts.refl _, ExPh.two (.inr rfl) (by decide) hν2⟩
    · obtain ⟨u, hν3⟩ := (hΦ 3 rfl ⟨⟨3, .data⟩, by simp, rfl, rfl⟩).2.2.2.1 (.inr rfl)
      generalize ν 3 = n3 at *
      subst hν3
      exact .inr ⟨u, W, by kernel_rfl, World.Exts.refl _, ExPh.any (by decide)⟩
    · obtain ⟨u, hν3⟩ := (hΦ 3 rfl ⟨⟨3, .data⟩, by simp, rfl, rfl⟩).2.2.2.1 (.inr rfl)
      generalize ν 3 = n3 at *
      subst hν3
      exact .inr ⟨.int .i64 41, W, by kernel_rfl, World.Exts.refl _, ExPh.err (by decide) rfl⟩
  case tail =>
  clear hkn
  have e5 := (hΦ 5 (by decide) rfl).2.2.2.2.2 rfl
  simp only [List.drop_succ_cons, List.drop_zero]
  generalize ν 4 = v4
  generalize ν 5 = v5 at e5 ⊢
  subst e5
  clear hΦ
  obtain ⟨Xa, hXa⟩ := hE
  subst hXa
  go_upto_region 13 with (fail)
  rename_i i9_9_1 i9_9_2 i9_9_3
  revert w HCD HTU HJ1 HJ2 i9_1_1 X0 i9_8_1 X2 X3 A hwA t0 b0 X11 X12 X W0 hA0 t1 b1 k1 X5 HQ1 l2 k2 X6 HQ2 l3 k3 X7 HQ3 t4 b4 k4 X8 HQ4 W4 p hlt4 hp W6 n1 n2 W7 W8 n9 hn4 W9 bx i9_9_1 listed W qv cv V hwV x3 x6 o0 o1 o2 o3 o4 o5 o6 o7 d0 d1 d2 d3 d4 d5 d6 d7 s0 s1 s2 s3 s4 s5 s6 nx3 nx6 no nd ns HBT HGO HGD HBL HTL v1 X1 ν v4 Xa i9_9_2 i9_9_3
  exact HG.out
end Go.Proofs.YtfjkiemjmnnbkaaDoor

/-
  The law ScaleExamples: its walk.
-/
namespace Go.Proofs.YtfjkiemjmnnbkaaDoor
open Go.RowKit Kr
set_option linter.unusedSimpArgs false

set_option maxRecDepth 100000 in
set_option maxHeartbeats 8000000 in
noncomputable def l04ex_any_c10 : { G : Prop // G → l04ex_any_c9.val } := by
  apply Subtype.mk
  case property =>
  intro hG
  have HG := Lib.hid hG
  clear hG
  intro w HCD HTU HJ1 HJ2 i9_1_1 X0 i9_8_1 X2 X3 A hwA t0 b0 X11 X12 X W0 hA0 t1 b1 k1 X5 HQ1 l2 k2 X6 HQ2 l3 k3 X7 HQ3 t4 b4 k4 X8 HQ4 W4 p hlt4 hp W6 n1 n2 W7 W8 n9 hn4 W9 bx i9_9_1 listed W qv cv V hwV x3 x6 o0 o1 o2 o3 o4 o5 o6 o7 d0 d1 d2 d3 d4 d5 d6 d7 s0 s1 s2 s3 s4 s5 s6 nx3 nx6 no nd ns HBT HGO HGD HBL HTL v1 X1 ν v4 Xa i9_9_2 i9_9_3
  go_upto_region 14 with (first
    | (go_at_call 8; refine (l04_bay_any _).mono ?_; rintro e w' ⟨v, rfl, hb, X2, rfl⟩; (have HB := Lib.hid hb); clear hb)
    | (go_at_call 10; refine (l04_gear_any _).mono ?_; rintro e w' ⟨l, r, s, rfl, hg, X3, rfl⟩; (have HG := Lib.hid hg); clear hg)
    | (go_at_call 12; refine (scale_Judge_is exBay _ exGear _ _ _ ⟨⟨0, 0⟩, 0, 1001, ⟨0, 0⟩, false⟩ _ (HB.out.mono exq) (HG.out.mono exq) (HCD.out.mono (hwV.trans exq))).mono ?_; simp only [ex_bad]; rintro e w' ⟨v1, rfl, -, X4, rfl⟩))
  clear HB HG
  rename_i i9_10_1 i9_10_2 i9_10_3 i9_10_4 i9_10_5
  revert w HCD HTU HJ1 HJ2 i9_1_1 X0 i9_8_1 i9_10_1 i9_10_2 A hwA t0 b0 X11 X12 X W0 hA0 t1 b1 k1 X5 HQ1 l2 k2 X6 HQ2 l3 k3 X7 HQ3 t4 b4 k4 X8 HQ4 W4 p hlt4 hp W6 n1 n2 W7 W8 n9 hn4 W9 bx i9_9_1 listed W qv cv V hwV x3 x6 o0 o1 o2 o3 o4 o5 o6 o7 d0 d1 d2 d3 d4 d5 d6 d7 s0 s1 s2 s3 s4 s5 s6 nx3 nx6 no nd ns HBT HGO HGD HBL HTL i9_10_3 X1 ν v4 Xa v X2 l r s X3 v1 X4 i9_10_4 i9_10_5
  exact HG.out
end Go.Proofs.YtfjkiemjmnnbkaaDoor

/-
  The law ScaleExamples: its walk.
-/
namespace Go.Proofs.YtfjkiemjmnnbkaaDoor
open Go.RowKit Kr
set_option linter.unusedSimpArgs false

set_option maxRecDepth 100000 in
set_option maxHeartbeats 8000000 in
noncomputable def l04ex_any_c11 : { G : Prop // G → l04ex_any_c10.val } := by
  apply Subtype.mk
  case property =>
  intro hG
  have HG := Lib.hid hG
  clear hG
  intro w HCD HTU HJ1 HJ2 i9_1_1 X0 i9_8_1 i9_10_1 i9_10_2 A hwA t0 b0 X11 X12 X W0 hA0 t1 b1 k1 X5 HQ1 l2 k2 X6 HQ2 l3 k3 X7 HQ3 t4 b4 k4 X8 HQ4 W4 p hlt4 hp W6 n1 n2 W7 W8 n9 hn4 W9 bx i9_9_1 listed W qv cv V hwV x3 x6 o0 o1 o2 o3 o4 o5 o6 o7 d0 d1 d2 d3 d4 d5 d6 d7 s0 s1 s2 s3 s4 s5 s6 nx3 nx6 no nd ns HBT HGO HGD HBL HTL i9_10_3 X1 ν v4 Xa v X2 l r s X3 v1 X4 i9_10_4 i9_10_5
  refine wp_region_callsK 10 (fun i => i == 0 || i == 2 || i == 3 || i == 4 || i == 5 || i == 6 || i == 7) (fun c v W => ExPh 0 90 2 91 3 7 8 c v W) (fun _ => none) (by kernel_rfl) (fun ν => by kernel_rfl) (by kernel_rfl) (by kernel_rfl) (by kernel_rfl) (by kernel_rfl) (by kernel_rfl) ?mono ?known ?_
  rotate_left 2
  apply Exists.intro
  refine ⟨fun ν hkn => ?want, fun ν hkn L hL => ?walk, fun c oc hc hU ν hkn W hE hΦ => ?calls, fun ν hkn W hE hΦ => ?tail⟩
  case walk =>
    repeat (first
      | (refine modTo_free rfl ?_; go_big_quiet_step (fail))
      | (refine modTo_call rfl rfl ?_; go_big_quiet_step (fail)))
    refine modTo_end ?_
    exact hL
  case want =>
    intro i oi hi hU
    simp at hU
    rcases hU with (((((rfl | rfl) | rfl) | rfl) | rfl) | rfl) | rfl
    all_goals
      simp only [List.getElem?_cons_succ, List.getElem?_cons_zero, Option.some.injEq] at hi
      subst hi
      rfl
  case mono => exact fun c v W W' h hE => h.mono hE
  case known => exact fun c v W u h hk => by cases hk
  case calls =>
    clear hkn
    simp at hU
    rcases hU with (((((rfl | rfl) | rfl) | rfl) | rfl) | rfl) | rfl
    all_goals
      simp only [List.getElem?_cons_succ, List.getElem?_cons_zero, Option.some.injEq] at hc
      subst hc
    · refine Oper.gives_fn (xs := []) rfl rfl rfl (enters_of Tryd.func8 (by kernel_rfl) rfl) ?_ rfl
      refine (l04_bay_any W).mono ?_
      rintro e W' ⟨v', rfl, h1, h2⟩
      exact ⟨_, rfl, h2, ExPh.bay (by decide) rfl h1⟩
    · refine Oper.gives_fn (xs := [.const (.int .i64 310000), .const (.int .i64 40)]) rfl rfl rfl (enters_of Tryd.func13 (by kernel_rfl) rfl) ?_ rfl
      refine (l04_norm_any 310000 40 W).mono ?_
      rintro e W' ⟨rfl, h2⟩
      exact ⟨_, rfl, h2, ExPh.norm (by decide) rfl⟩
    · obtain ⟨v0, hν0, hb0⟩ := (hΦ 0 rfl ⟨⟨0, .data⟩, by simp, rfl, rfl⟩).1 rfl
      have hν2 := (hΦ 2 rfl ⟨⟨2, .data⟩, by simp, rfl, rfl⟩).2.2.1 rfl
      generalize ν 0 = n0 at *
      generalize ν 2 = n2 at *
      subst hν0 hν2
      refine Oper.gives_fn rfl rfl rfl (enters_of Tryd.func12 (by kernel_rfl) rfl) ?_ rfl
      refine (scale_Judge_is exBay v0 exDeaf _ _ _ (exNorm 310000 40) W hb0 (HGD.out.mono (World.Exts.trans exq hE)) (HCD.out.mono (hwV.trans (World.Exts.trans exq hE)))).mono ?_
      simp only [ex_deaf]
      rintro e W' ⟨v', rfl, h1, h2⟩
      exact ⟨_, rfl, h2, ExPh.three (.inl rfl) (by decide) rfl⟩
    · obtain ⟨u, p, hν2⟩ := (hΦ 3 rfl ⟨⟨3, .data⟩, by simp, rfl, rfl⟩).2.2.2.2.1 (.inl rfl)
      exact .inr ⟨ν 3, W, by kernel_rfl, World.Exts.refl _, ExPh.three (.inr rfl) (by decide) hν2⟩
    · obtain ⟨u, p, hν3⟩ := (hΦ 4 rfl ⟨⟨4, .data⟩, by simp, rfl, rfl⟩).2.2.2.2.1 (.inr rfl)
      generalize ν 4 = n3 at *
      subst hν3
      exact .inr ⟨u, W, by kernel_rfl, World.Exts.refl _, ExPh.any (by decide)⟩
    · obtain ⟨u, p, hν3⟩ := (hΦ 4 rfl ⟨⟨4, .data⟩, by simp, rfl, rfl⟩).2.2.2.2.1 (.inr rfl)
      generalize ν 4 = n3 at *
      subst hν3
      exact .inr ⟨p, W, by kernel_rfl, World.Exts.refl _, ExPh.any (by decide)⟩
    · obtain ⟨u, p, hν3⟩ := (hΦ 4 rfl ⟨⟨4, .data⟩, by simp, rfl, rfl⟩).2.2.2.2.1 (.inr rfl)
      generalize ν 4 = n3 at *
      subst hν3
      exact .inr ⟨.int .i64 8, W, by kernel_rfl, World.Exts.refl _, ExPh.err (by decide) rfl⟩
  case tail =>
  clear hkn
  have e7 := (hΦ 7 (by decide) rfl).2.2.2.2.2 rfl
  simp only [List.drop_succ_cons, List.drop_zero]
  generalize ν 5 = v5
  generalize ν 6 = v6
  generalize ν 7 = v7 at e7 ⊢
  subst e7
  clear hΦ
  obtain ⟨Xb, hXb⟩ := hE
  subst hXb
  go_upto_region 15 with (fail)
  rename_i i9_11_1 i9_11_2 i9_11_3
  revert w HCD HTU HJ1 HJ2 i9_1_1 X0 i9_8_1 i9_10_1 i9_10_2 A hwA t0 b0 X11 X12 X W0 hA0 t1 b1 k1 X5 HQ1 l2 k2 X6 HQ2 l3 k3 X7 HQ3 t4 b4 k4 X8 HQ4 W4 p hlt4 hp W6 n1 n2 W7 W8 n9 hn4 W9 bx i9_9_1 listed W qv cv V hwV x3 x6 o0 o1 o2 o3 o4 o5 o6 o7 d0 d1 d2 d3 d4 d5 d6 d7 s0 s1 s2 s3 s4 s5 s6 nx3 nx6 no nd ns HBT HGO HGD HBL HTL i9_10_3 X1 i9_11_1 v4 Xa v X2 l r s X3 v1 X4 ν v5 v6 Xb i9_11_2 i9_11_3
  exact HG.out
end Go.Proofs.YtfjkiemjmnnbkaaDoor

/-
  The law ScaleExamples: its walk.
-/
namespace Go.Proofs.YtfjkiemjmnnbkaaDoor
open Go.RowKit Kr
set_option linter.unusedSimpArgs false

set_option maxRecDepth 100000 in
set_option maxHeartbeats 8000000 in
noncomputable def l04ex_any_c12 : { G : Prop // G → l04ex_any_c11.val } := by
  apply Subtype.mk
  case property =>
  intro hG
  have HG := Lib.hid hG
  clear hG
  intro w HCD HTU HJ1 HJ2 i9_1_1 X0 i9_8_1 i9_10_1 i9_10_2 A hwA t0 b0 X11 X12 X W0 hA0 t1 b1 k1 X5 HQ1 l2 k2 X6 HQ2 l3 k3 X7 HQ3 t4 b4 k4 X8 HQ4 W4 p hlt4 hp W6 n1 n2 W7 W8 n9 hn4 W9 bx i9_9_1 listed W qv cv V hwV x3 x6 o0 o1 o2 o3 o4 o5 o6 o7 d0 d1 d2 d3 d4 d5 d6 d7 s0 s1 s2 s3 s4 s5 s6 nx3 nx6 no nd ns HBT HGO HGD HBL HTL i9_10_3 X1 i9_11_1 v4 Xa v X2 l r s X3 v1 X4 ν v5 v6 Xb i9_11_2 i9_11_3
  go_upto_region 16 with (go_at_call 14; refine (scale_Hard_any exDeaf _ _ _ _ (HGD.out.mono exq)).mono ?_; simp only [ex_deafHard]; rintro e w' ⟨rfl, X5, rfl⟩)
  rename_i i9_12_1 i9_12_2 i9_12_3
  revert w HCD HTU HJ1 HJ2 i9_1_1 X0 i9_8_1 i9_10_1 i9_10_2 A hwA t0 b0 X11 X12 X W0 hA0 t1 b1 k1 i9_12_1 HQ1 l2 k2 X6 HQ2 l3 k3 X7 HQ3 t4 b4 k4 X8 HQ4 W4 p hlt4 hp W6 n1 n2 W7 W8 n9 hn4 W9 bx i9_9_1 listed W qv cv V hwV x3 x6 o0 o1 o2 o3 o4 o5 o6 o7 d0 d1 d2 d3 d4 d5 d6 d7 s0 s1 s2 s3 s4 s5 s6 nx3 nx6 no nd ns HBT HGO HGD HBL HTL i9_10_3 X1 i9_11_1 v4 Xa v X2 l r s X3 v1 X4 ν v5 v6 Xb X5 i9_12_2 i9_12_3
  exact HG.out
end Go.Proofs.YtfjkiemjmnnbkaaDoor

/-
  The law ScaleExamples: its walk.
-/
namespace Go.Proofs.YtfjkiemjmnnbkaaDoor
open Go.RowKit Kr
set_option linter.unusedSimpArgs false

set_option maxRecDepth 100000 in
set_option maxHeartbeats 8000000 in
noncomputable def l04ex_any_c13 : { G : Prop // G → l04ex_any_c12.val } := by
  apply Subtype.mk
  case property =>
  intro hG
  have HG := Lib.hid hG
  clear hG
  intro w HCD HTU HJ1 HJ2 i9_1_1 X0 i9_8_1 i9_10_1 i9_10_2 A hwA t0 b0 X11 X12 X W0 hA0 t1 b1 k1 i9_12_1 HQ1 l2 k2 X6 HQ2 l3 k3 X7 HQ3 t4 b4 k4 X8 HQ4 W4 p hlt4 hp W6 n1 n2 W7 W8 n9 hn4 W9 bx i9_9_1 listed W qv cv V hwV x3 x6 o0 o1 o2 o3 o4 o5 o6 o7 d0 d1 d2 d3 d4 d5 d6 d7 s0 s1 s2 s3 s4 s5 s6 nx3 nx6 no nd ns HBT HGO HGD HBL HTL i9_10_3 X1 i9_11_1 v4 Xa v X2 l r s X3 v1 X4 ν v5 v6 Xb X5 i9_12_2 i9_12_3
  refine wp_region_callsK 7 (fun i => i == 1 || i == 2 || i == 3 || i == 4 || i == 5) (fun c v W => ExPh 90 1 91 2 93 5 6 c v W) (fun _ => none) (by kernel_rfl) (fun ν => by kernel_rfl) (by kernel_rfl) (by kernel_rfl) (by kernel_rfl) (by kernel_rfl) (by kernel_rfl) ?mono ?known ?_
  rotate_left 2
  apply Exists.intro
  refine ⟨fun ν hkn => ?want, fun ν hkn L hL => ?walk, fun c oc hc hU ν hkn W hE hΦ => ?calls, fun ν hkn W hE hΦ => ?tail⟩
  case walk =>
    repeat (first
      | (refine modTo_free rfl ?_; go_big_quiet_step (fail))
      | (refine modTo_call rfl rfl ?_; go_big_quiet_step (fail)))
    refine modTo_end ?_
    exact hL
  case want =>
    intro i oi hi hU
    simp at hU
    rcases hU with (((rfl | rfl) | rfl) | rfl) | rfl
    all_goals
      simp only [List.getElem?_cons_succ, List.getElem?_cons_zero, Option.some.injEq] at hi
      subst hi
      rfl
  case mono => exact fun c v W W' h hE => h.mono hE
  case known => exact fun c v W u h hk => by cases hk
  case calls =>
    clear hkn
    simp at hU
    rcases hU with (((rfl | rfl) | rfl) | rfl) | rfl
    all_goals
      simp only [List.getElem?_cons_succ, List.getElem?_cons_zero, Option.some.injEq] at hc
      subst hc
    · refine Oper.gives_fn (xs := []) rfl rfl rfl (enters_of Tryd.func10 (by kernel_rfl) rfl) ?_ rfl
      refine (l04_gear_any W).mono ?_
      rintro e W' ⟨l, r, s, rfl, h1, h2⟩
      exact ⟨_, rfl, h2, ExPh.gear (by decide) rfl h1⟩
    · obtain ⟨l, r, s, hν1, hg1⟩ := (hΦ 1 rfl ⟨⟨1, .data⟩, by simp, rfl, rfl⟩).2.1 rfl
      generalize ν 1 = n1 at *
      subst hν1
      refine Oper.gives_fn rfl rfl rfl (enters_of Tryd.func11 (by kernel_rfl) rfl) ?_ rfl
      refine (scale_Totals_is exLost _ exGear _ _ _ W (HBL.out.mono (World.Exts.trans exq hE)) hg1).mono ?_
      simp only [ex_lost]
      rintro e W' ⟨v', rfl, h1, h2⟩
      exact ⟨_, rfl, h2, ExPh.two (.inl rfl) (by decide) rfl⟩
    · obtain ⟨u, hν2⟩ := (hΦ 2 rfl ⟨⟨2, .data⟩, by simp, rfl, rfl⟩).2.2.2.1 (.inl rfl)
      exact .inr ⟨ν 2, W, by kernel_rfl, World.Exts.refl _, ExPh.two (.inr rfl) (by decide) hν2⟩
    · obtain ⟨u, hν3⟩ := (hΦ 3 rfl ⟨⟨3, .data⟩, by simp, rfl, rfl⟩).2.2.2.1 (.inr rfl)
      generalize ν 3 = n3 at *
      subst hν3
      exact .inr ⟨u, W, by kernel_rfl, World.Exts.refl _, ExPh.any (by decide)⟩
    · obtain ⟨u, hν3⟩ := (hΦ 3 rfl ⟨⟨3, .data⟩, by simp, rfl, rfl⟩).2.2.2.1 (.inr rfl)
      generalize ν 3 = n3 at *
      subst hν3
      exact .inr ⟨.int .i64 6, W, by kernel_rfl, World.Exts.refl _, ExPh.err (by decide) rfl⟩
  case tail =>
  clear hkn
  have e5 := (hΦ 5 (by decide) rfl).2.2.2.2.2 rfl
  simp only [List.drop_succ_cons, List.drop_zero]
  generalize ν 4 = v4
  generalize ν 5 = v5 at e5 ⊢
  subst e5
  clear hΦ
  obtain ⟨Xc, hXc⟩ := hE
  subst hXc
  go_upto_region 17 with (fail)
  rename_i i9_13_1 i9_13_2 i9_13_3 i9_13_4
  revert w HCD HTU HJ1 HJ2 i9_1_1 X0 i9_8_1 i9_10_1 i9_10_2 A hwA t0 b0 X11 X12 X W0 hA0 t1 b1 k1 i9_12_1 HQ1 l2 k2 X6 HQ2 l3 k3 X7 HQ3 t4 b4 k4 X8 HQ4 W4 p hlt4 hp W6 n1 n2 W7 W8 n9 hn4 W9 bx i9_9_1 listed W qv cv V hwV x3 x6 o0 o1 o2 o3 o4 o5 o6 o7 d0 d1 d2 d3 d4 d5 d6 d7 s0 s1 s2 s3 s4 s5 s6 nx3 nx6 no nd ns HBT HGO HGD HBL HTL i9_10_3 X1 i9_11_1 i9_13_1 Xa v X2 l r s X3 v1 X4 i9_13_2 v5 v6 Xb X5 ν v4 Xc i9_13_3 i9_13_4
  exact HG.out
end Go.Proofs.YtfjkiemjmnnbkaaDoor

/-
  The law ScaleExamples: its walk.
-/
namespace Go.Proofs.YtfjkiemjmnnbkaaDoor
open Go.RowKit Kr
set_option linter.unusedSimpArgs false

set_option maxRecDepth 100000 in
set_option maxHeartbeats 8000000 in
noncomputable def l04ex_any_c14 : { G : Prop // G → l04ex_any_c13.val } := by
  apply Subtype.mk
  case property =>
  intro hG
  have HG := Lib.hid hG
  clear hG
  intro w HCD HTU HJ1 HJ2 i9_1_1 X0 i9_8_1 i9_10_1 i9_10_2 A hwA t0 b0 X11 X12 X W0 hA0 t1 b1 k1 i9_12_1 HQ1 l2 k2 X6 HQ2 l3 k3 X7 HQ3 t4 b4 k4 X8 HQ4 W4 p hlt4 hp W6 n1 n2 W7 W8 n9 hn4 W9 bx i9_9_1 listed W qv cv V hwV x3 x6 o0 o1 o2 o3 o4 o5 o6 o7 d0 d1 d2 d3 d4 d5 d6 d7 s0 s1 s2 s3 s4 s5 s6 nx3 nx6 no nd ns HBT HGO HGD HBL HTL i9_10_3 X1 i9_11_1 i9_13_1 Xa v X2 l r s X3 v1 X4 i9_13_2 v5 v6 Xb X5 ν v4 Xc i9_13_3 i9_13_4
  have htn : ∀ (W : World), V.Exts W → Calls Tryd.prog 15 #[.agg #[.int .i64 3, .int .i64 10, .int .i64 (-10), .int .i64 10, .int .i64 (-20), .int .i64 20, .slice qv 2 cv]] W fun e w' => ∃ v, e = .returned (.tuple #[v, .int .i64 6]) ∧ W.Exts w' := fun W hE => by
    have h := scale_Tunes_any ⟨3, 10, ⟨-10, 10⟩, ⟨-20, 20⟩, [⟨100000, 100000⟩, ⟨100000, 100100⟩]⟩ (.slice qv 2 cv) W (HTL.out.mono hE)
    rw [if_pos (show right ⟨3, 10, ⟨-10, 10⟩, ⟨-20, 20⟩, [⟨100000, 100000⟩, ⟨100000, 100100⟩]⟩ = true from ex_lostTunes.1), if_pos (show tunes ⟨3, 10, ⟨-10, 10⟩, ⟨-20, 20⟩, [⟨100000, 100000⟩, ⟨100000, 100100⟩]⟩ = [] from ex_lostTunes.2)] at h
    refine h.mono ?_
    rintro e w' ⟨v, rfl, -, h2⟩
    exact ⟨v, rfl, h2⟩
  have HTN := Lib.hid htn
  clear htn
  go_upto_region 18 with (go_at_call 15; refine (HTN.out _ exq).mono ?_; rintro e w' ⟨v9, rfl, X6, rfl⟩)
  rename_i i9_14_1 i9_14_2 i9_14_3
  revert w HCD HTU HJ1 HJ2 i9_1_1 X0 i9_8_1 i9_10_1 i9_10_2 A hwA t0 b0 X11 X12 X W0 hA0 t1 b1 k1 i9_12_1 HQ1 l2 k2 i9_14_1 HQ2 l3 k3 X7 HQ3 t4 b4 k4 X8 HQ4 W4 p hlt4 hp W6 n1 n2 W7 W8 n9 hn4 W9 bx i9_9_1 listed W qv cv V hwV x3 x6 o0 o1 o2 o3 o4 o5 o6 o7 d0 d1 d2 d3 d4 d5 d6 d7 s0 s1 s2 s3 s4 s5 s6 nx3 nx6 no nd ns HBT HGO HGD HBL HTL i9_10_3 X1 i9_11_1 i9_13_1 Xa v X2 l r s X3 v1 X4 i9_13_2 v5 v6 Xb X5 ν v4 Xc HTN v9 X6 i9_14_2 i9_14_3
  exact HG.out
end Go.Proofs.YtfjkiemjmnnbkaaDoor

/-
  The law ScaleExamples: its walk.
-/
namespace Go.Proofs.YtfjkiemjmnnbkaaDoor
open Go.RowKit Kr
set_option linter.unusedSimpArgs false

set_option maxRecDepth 100000 in
set_option maxHeartbeats 8000000 in
noncomputable def l04ex_any_c15 : { G : Prop // G → l04ex_any_c14.val } := by
  apply Subtype.mk
  case property =>
  intro hG
  have HG := Lib.hid hG
  clear hG
  intro w HCD HTU HJ1 HJ2 i9_1_1 X0 i9_8_1 i9_10_1 i9_10_2 A hwA t0 b0 X11 X12 X W0 hA0 t1 b1 k1 i9_12_1 HQ1 l2 k2 i9_14_1 HQ2 l3 k3 X7 HQ3 t4 b4 k4 X8 HQ4 W4 p hlt4 hp W6 n1 n2 W7 W8 n9 hn4 W9 bx i9_9_1 listed W qv cv V hwV x3 x6 o0 o1 o2 o3 o4 o5 o6 o7 d0 d1 d2 d3 d4 d5 d6 d7 s0 s1 s2 s3 s4 s5 s6 nx3 nx6 no nd ns HBT HGO HGD HBL HTL i9_10_3 X1 i9_11_1 i9_13_1 Xa v X2 l r s X3 v1 X4 i9_13_2 v5 v6 Xb X5 ν v4 Xc HTN v9 X6 i9_14_2 i9_14_3
  go_upto_region 19 with (first
    | (go_at_call 8; refine (l04_bay_any _).mono ?_; rintro e w' ⟨v, rfl, hb, X7, rfl⟩; (have HB := Lib.hid hb); clear hb)
    | (go_at_call 10; refine (l04_gear_any _).mono ?_; rintro e w' ⟨l, r, s, rfl, hg, X8, rfl⟩; (have HG := Lib.hid hg); clear hg)
    | (go_at_call 16; refine (scale_Truth_is exBay _ exGear _ _ _ 306900 _ (HB.out.mono exq) (HG.out.mono exq)).mono ?_; simp only [ex_none]; rintro e w' ⟨v1, v2, rfl, h1, h2, X9, rfl⟩; (obtain ⟨qa, ca, rfl⟩ := h1.len); (obtain ⟨qb, cb, rfl⟩ := h2.len); clear h1 h2; simp only [List.map_nil, List.length_nil]))
  clear HB HG
  rename_i i9_15_1 i9_15_2 i9_15_3 i9_15_4 i9_15_5 i9_15_6 i9_15_7 i9_15_8
  revert w HCD HTU HJ1 HJ2 i9_1_1 X0 i9_8_1 i9_10_1 i9_10_2 A hwA t0 b0 X11 X12 X W0 hA0 t1 b1 k1 i9_12_1 HQ1 l2 k2 i9_14_1 HQ2 l3 k3 i9_15_1 HQ3 t4 b4 k4 i9_15_2 HQ4 W4 p hlt4 hp W6 n1 n2 W7 W8 n9 hn4 W9 bx i9_9_1 listed W qv cv V hwV x3 x6 o0 o1 o2 o3 o4 o5 o6 o7 d0 d1 d2 d3 d4 d5 d6 d7 s0 s1 s2 s3 s4 s5 s6 nx3 nx6 no nd ns HBT HGO HGD HBL HTL i9_10_3 X1 i9_11_1 i9_13_1 Xa i9_15_3 X2 i9_15_4 i9_15_5 i9_15_6 X3 v1 X4 i9_13_2 v5 v6 Xb X5 ν v4 Xc HTN v9 X6 v X7 l r s X8 X9 qa ca qb cb i9_15_7 i9_15_8
  exact HG.out
end Go.Proofs.YtfjkiemjmnnbkaaDoor

/-
  The law ScaleExamples: its walk.
-/
namespace Go.Proofs.YtfjkiemjmnnbkaaDoor
open Go.RowKit Kr
set_option linter.unusedSimpArgs false

set_option maxRecDepth 100000 in
set_option maxHeartbeats 8000000 in
noncomputable def l04ex_any_c16 : { G : Prop // G → l04ex_any_c15.val } := by
  apply Subtype.mk
  case property =>
  intro hG
  have HG := Lib.hid hG
  clear hG
  intro w HCD HTU HJ1 HJ2 i9_1_1 X0 i9_8_1 i9_10_1 i9_10_2 A hwA t0 b0 X11 X12 X W0 hA0 t1 b1 k1 i9_12_1 HQ1 l2 k2 i9_14_1 HQ2 l3 k3 i9_15_1 HQ3 t4 b4 k4 i9_15_2 HQ4 W4 p hlt4 hp W6 n1 n2 W7 W8 n9 hn4 W9 bx i9_9_1 listed W qv cv V hwV x3 x6 o0 o1 o2 o3 o4 o5 o6 o7 d0 d1 d2 d3 d4 d5 d6 d7 s0 s1 s2 s3 s4 s5 s6 nx3 nx6 no nd ns HBT HGO HGD HBL HTL i9_10_3 X1 i9_11_1 i9_13_1 Xa i9_15_3 X2 i9_15_4 i9_15_5 i9_15_6 X3 v1 X4 i9_13_2 v5 v6 Xb X5 ν v4 Xc HTN v9 X6 v X7 l r s X8 X9 qa ca qb cb i9_15_7 i9_15_8
  go_upto_region 20 with (first
    | (go_at_call 8; refine (l04_bay_any _).mono ?_; rintro e w' ⟨v, rfl, hb, Y1, rfl⟩; (have HB := Lib.hid hb); clear hb)
    | (go_at_call 10; refine (l04_gear_any _).mono ?_; rintro e w' ⟨l, r, s, rfl, hg, Y2, rfl⟩; (have HG := Lib.hid hg); clear hg)
    | (go_at_call 13; refine (l04_norm_any _ _ _).mono ?_; rintro e w' ⟨rfl, Y3, rfl⟩)
    | (go_at_call 17; refine (scale_Ballast_is exBay _ exGear _ _ _ (exNorm 310000 40) [-1] _ _ (HB.out.mono exq) (HG.out.mono exq) (row_lit (enc := fun x : Int => [.int .i64 x]) (k := 1) _ #[.int .i64 (-1)] 3 [-1] _ 1 rfl rfl rfl (fun _ _ => rfl) (by decide)).2).mono ?_; simp only [ex_ballArg]; rintro e w' ⟨v1, rfl, -, Y4, rfl⟩))
  clear HB HG
  rename_i i9_16_1 i9_16_2 i9_16_3 i9_16_4 i9_16_5 i9_16_6 i9_16_7
  revert w HCD HTU HJ1 HJ2 i9_1_1 X0 i9_8_1 i9_10_1 i9_10_2 A hwA t0 b0 X11 X12 X W0 hA0 t1 b1 k1 i9_12_1 HQ1 l2 k2 i9_14_1 HQ2 l3 k3 i9_15_1 HQ3 t4 b4 k4 i9_15_2 HQ4 W4 p hlt4 hp W6 n1 n2 W7 W8 n9 hn4 W9 bx i9_9_1 listed W qv cv V hwV x3 x6 o0 o1 o2 o3 o4 o5 o6 o7 d0 d1 d2 d3 d4 d5 d6 d7 s0 s1 s2 s3 s4 s5 s6 nx3 nx6 no nd ns HBT HGO HGD HBL HTL i9_10_3 X1 i9_11_1 i9_13_1 Xa i9_15_3 X2 i9_15_4 i9_15_5 i9_15_6 X3 i9_16_1 X4 i9_13_2 v5 v6 Xb X5 ν v4 Xc HTN v9 X6 i9_16_2 X7 i9_16_3 i9_16_4 i9_16_5 X8 X9 qa ca qb cb v Y1 l r s Y2 Y3 v1 Y4 i9_16_6 i9_16_7
  exact HG.out
end Go.Proofs.YtfjkiemjmnnbkaaDoor

/-
  The law ScaleExamples: its walk.
-/
namespace Go.Proofs.YtfjkiemjmnnbkaaDoor
open Go.RowKit Kr
set_option linter.unusedSimpArgs false

set_option maxRecDepth 100000 in
set_option maxHeartbeats 8000000 in
noncomputable def l04ex_any_c17 : { G : Prop // G → l04ex_any_c16.val } := by
  apply Subtype.mk
  case property =>
  intro hG
  have HG := Lib.hid hG
  clear hG
  intro w HCD HTU HJ1 HJ2 i9_1_1 X0 i9_8_1 i9_10_1 i9_10_2 A hwA t0 b0 X11 X12 X W0 hA0 t1 b1 k1 i9_12_1 HQ1 l2 k2 i9_14_1 HQ2 l3 k3 i9_15_1 HQ3 t4 b4 k4 i9_15_2 HQ4 W4 p hlt4 hp W6 n1 n2 W7 W8 n9 hn4 W9 bx i9_9_1 listed W qv cv V hwV x3 x6 o0 o1 o2 o3 o4 o5 o6 o7 d0 d1 d2 d3 d4 d5 d6 d7 s0 s1 s2 s3 s4 s5 s6 nx3 nx6 no nd ns HBT HGO HGD HBL HTL i9_10_3 X1 i9_11_1 i9_13_1 Xa i9_15_3 X2 i9_15_4 i9_15_5 i9_15_6 X3 i9_16_1 X4 i9_13_2 v5 v6 Xb X5 ν v4 Xc HTN v9 X6 i9_16_2 X7 i9_16_3 i9_16_4 i9_16_5 X8 X9 qa ca qb cb v Y1 l r s Y2 Y3 v1 Y4 i9_16_6 i9_16_7
  go_upto_region 21 with (first
    | (go_at_call 8; refine (l04_bay_any _).mono ?_; rintro e w' ⟨v, rfl, hb, Z1, rfl⟩; (have HB := Lib.hid hb); clear hb)
    | (go_at_call 10; refine (l04_gear_any _).mono ?_; rintro e w' ⟨l, r, s, rfl, hg, Z2, rfl⟩; (have HG := Lib.hid hg); clear hg)
    | (go_at_call 13; refine (l04_norm_any _ _ _).mono ?_; rintro e w' ⟨rfl, Z3, rfl⟩)
    | (go_at_call 17; refine (scale_Ballast_is exBay _ exGear _ _ _ (exNorm 305000 40) [] _ _ (HB.out.mono exq) (HG.out.mono exq) (IsRow.nil _)).mono ?_; simp only [ex_ballBad]; rintro e w' ⟨v1, rfl, -, Z4, rfl⟩))
  clear HB HG
  rename_i i9_17_1 i9_17_2 i9_17_3 i9_17_4 i9_17_5 i9_17_6 i9_17_7
  revert w HCD HTU HJ1 HJ2 i9_1_1 X0 i9_8_1 i9_10_1 i9_10_2 A hwA t0 b0 X11 X12 X W0 hA0 t1 b1 k1 i9_12_1 HQ1 l2 k2 i9_14_1 HQ2 l3 k3 i9_15_1 HQ3 t4 b4 k4 i9_15_2 HQ4 W4 p hlt4 hp W6 n1 n2 W7 W8 n9 hn4 W9 bx i9_9_1 listed W qv cv V hwV x3 x6 o0 o1 o2 o3 o4 o5 o6 o7 d0 d1 d2 d3 d4 d5 d6 d7 s0 s1 s2 s3 s4 s5 s6 nx3 nx6 no nd ns HBT HGO HGD HBL HTL i9_10_3 X1 i9_11_1 i9_13_1 Xa i9_15_3 X2 i9_15_4 i9_15_5 i9_15_6 X3 i9_16_1 X4 i9_13_2 v5 v6 Xb X5 ν v4 Xc HTN v9 X6 i9_16_2 X7 i9_16_3 i9_16_4 i9_16_5 X8 X9 qa ca qb cb i9_17_1 Y1 i9_17_2 i9_17_3 i9_17_4 Y2 Y3 i9_17_5 Y4 v Z1 l r s Z2 Z3 v1 Z4 i9_17_6 i9_17_7
  exact HG.out
end Go.Proofs.YtfjkiemjmnnbkaaDoor

/-
  The law ScaleExamples: its walk.
-/
namespace Go.Proofs.YtfjkiemjmnnbkaaDoor
open Go.RowKit Kr
set_option linter.unusedSimpArgs false

set_option maxRecDepth 100000 in
set_option maxHeartbeats 8000000 in
theorem l04ex_any_last : l04ex_any_c17.val := by
  intro w HCD HTU HJ1 HJ2 i9_1_1 X0 i9_8_1 i9_10_1 i9_10_2 A hwA t0 b0 X11 X12 X W0 hA0 t1 b1 k1 i9_12_1 HQ1 l2 k2 i9_14_1 HQ2 l3 k3 i9_15_1 HQ3 t4 b4 k4 i9_15_2 HQ4 W4 p hlt4 hp W6 n1 n2 W7 W8 n9 hn4 W9 bx i9_9_1 listed W qv cv V hwV x3 x6 o0 o1 o2 o3 o4 o5 o6 o7 d0 d1 d2 d3 d4 d5 d6 d7 s0 s1 s2 s3 s4 s5 s6 nx3 nx6 no nd ns HBT HGO HGD HBL HTL i9_10_3 X1 i9_11_1 i9_13_1 Xa i9_15_3 X2 i9_15_4 i9_15_5 i9_15_6 X3 i9_16_1 X4 i9_13_2 v5 v6 Xb X5 ν v4 Xc HTN v9 X6 i9_16_2 X7 i9_16_3 i9_16_4 i9_16_5 X8 X9 qa ca qb cb i9_17_1 Y1 i9_17_2 i9_17_3 i9_17_4 Y2 Y3 i9_17_5 Y4 v Z1 l r s Z2 Z3 v1 Z4 i9_17_6 i9_17_7
  have hra : (reads ⟨3, 10, ⟨-10, 10⟩, ⟨-20, 20⟩, [⟨100000, 100000⟩]⟩ (-1)).2 = 2 := ex_readsArg
  obtain ⟨ra, hra0⟩ : ∃ r, reads ⟨3, 10, ⟨-10, 10⟩, ⟨-20, 20⟩, [⟨100000, 100000⟩]⟩ (-1) = r := ⟨_, rfl⟩
  rw [hra0] at hra
  have HRA := Lib.hid hra
  clear hra
  have HRB := Lib.hid hra0
  clear hra0
  have hfb := field_bay
  go_wp2_with (first
    | (go_at_call 8; refine (l04_bay_own _).mono ?_; rintro e w' ⟨t0, b0, rfl, ⟨h0, h1⟩, h2, Z5, rfl⟩; (have c0 := LaysAs.cell h1 0 _ rfl); (have c1 := LaysAs.cell h1 1 _ rfl); (have c2 := LaysAs.cell h1 2 _ rfl); (have c3 := LaysAs.cell h1 3 _ rfl); (have c4 := LaysAs.cell h1 4 _ rfl); (have c5 := LaysAs.cell h1 5 _ rfl); (have c6 := LaysAs.cell h1 6 _ rfl); (have nc := Lays.of_cell c0); (have HT := Lib.hid h0); clear h0 h1)
    | (go_at_call 7; (have hh := scale_Reads_any ⟨3, 10, ⟨-10, 10⟩, ⟨-20, 20⟩, [⟨100000, 100000⟩]⟩ (.slice (some ⟨t0, 0, none⟩) 1 1) (-1) _ (trial_of HT.out)); rw [HRB.out, HRA.out] at hh; refine hh.mono ?_; clear hh; rintro e w' ⟨rfl, Z6, rfl⟩))
  go_ret
  exact ⟨rfl, (exf hwV)⟩
theorem l04ex_any (w : World) (hcd : CondsAt w) :
    Calls Tryd.prog 3 #[] w fun e w' => e = .returned (.bool true) ∧ w.Exts w' :=
  (l04ex_any_c1.property (l04ex_any_c2.property (l04ex_any_c3.property (l04ex_any_c4.property (l04ex_any_c5.property (l04ex_any_c6.property (l04ex_any_c7.property (l04ex_any_c8.property (l04ex_any_c9.property (l04ex_any_c10.property (l04ex_any_c11.property (l04ex_any_c12.property (l04ex_any_c13.property (l04ex_any_c14.property (l04ex_any_c15.property (l04ex_any_c16.property (l04ex_any_c17.property l04ex_any_last))))))))))))))))) w hcd
end Go.Proofs.YtfjkiemjmnnbkaaDoor
