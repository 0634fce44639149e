/-
  Walks of package sheet: the rows of ice books.
-/
import Derived.Test.YtcickafaomfbmaaGreatDoorZSBksVjL
namespace Go.Proofs.YtcickafaomfbmaaGreatDoor
open Go.RowKit Kr
set_option linter.unusedSimpArgs false
set_option linter.unusedVariables false

/-- What is known of the calls of the region. -/
def iceKv (a b d e f : Value) (c : Nat) : Option Value := if c = 4 then some a else if c = 10 then some b else if c = 20 then some d else if c = 36 then some e else if c = 41 then some f else none
def IcePhi (kv : Nat → Option Value) (r1 r2 r4 : Bool) (x0 x1 x2 x3 x4 : Int) (c : Nat) (v : Value) (W : World) : Prop :=
  (∀ u, kv c = some u → v = u) ∧ (c = 3 → IsRow (fun x : Int => [.int .i64 x]) 1 W v [x0]) ∧ (c = 9 → r1 = true → IsRow (fun x : Int => [.int .i64 x]) 1 W v [x1]) ∧ (c = 19 → r2 = true → IsRow (fun x : Int => [.int .i64 x]) 1 W v [x2, x3]) ∧ (c = 35 → r4 = true → IsRow (fun x : Int => [.int .i64 x]) 1 W v [x4])
theorem IcePhi.mono {kv : Nat → Option Value} {r1 r2 r4 : Bool} {x0 x1 x2 x3 x4 : Int} {c : Nat} {v : Value} {W W' : World} (h : IcePhi kv r1 r2 r4 x0 x1 x2 x3 x4 c v W) (hE : W.Exts W') : IcePhi kv r1 r2 r4 x0 x1 x2 x3 x4 c v W' :=
  ⟨h.1, fun e => (h.2.1 e).mono hE, fun e k => (h.2.2.1 e k).mono hE, fun e k => (h.2.2.2.1 e k).mono hE, fun e k => (h.2.2.2.2 e k).mono hE⟩

set_option maxRecDepth 4000 in
set_option maxHeartbeats 40000000 in
theorem sheet_kinds_6_any (i : Nat) (x last : List Int) (b o c : Nat) (vl : Value) (w : World) (h : IsRow (fun x : Int => [.int .i64 x]) 1 w (.slice (some ⟨b, o, none⟩) 5 c) x) (hl : x.length = 5) (hlast : LastAt w 5 i vl last) (hi : i ≤ 1000) :
    Calls Tryz.prog 65 #[.int .i64 (i : Int), .slice (some ⟨b, o, none⟩) 5 c, vl] w fun e w' => e = .returned (.bool (iceRow i x last)) ∧ w.Exts w' := by
  have h' := h
  rw [← hl] at h'
  have c0 := row_nth h' 0 (by omega)
  have c1 := row_nth h' 1 (by omega)
  have c2 := row_nth h' 2 (by omega)
  have c3 := row_nth h' 3 (by omega)
  have c4 := row_nth h' 4 (by omega)
  simp only [Nat.add_zero] at c0
  have lx := Lays.of_cell c0
  have hri : ∀ W : World, w.Exts W → 0 ≤ nth x 0 → 0 ≤ nth x 1 → Calls Tryz.prog 61 #[vl, .slice (some ⟨b, o, none⟩) 5 c] W fun e w' => e = .returned (.bool (decide (i = 0) || shLess last x)) ∧ W.Exts w' := fun W hE hp0 hp1 => by
    rcases hlast with ⟨rfl, rfl⟩ | ⟨hz, b', o', c', rfl, hr, hll, hq0, hq1⟩
    · exact sheet_rises_nil _ W
    · rw [show decide (i = 0) = false by simp; omega, Bool.false_or]
      exact sheet_rises_any last x 5 _ _ _ _ _ _ W (hr.mono hE) (h.mono hE) hll hl (by decide) hq0 hq1 hp0 hp1
  have hrow : iceRow i x last = (inb 0 7 (nth x 0) && (inb 0 11 (nth x 1) && (inAll 0 2800 [nth x 2, nth x 3] && (decide (nth x 2 ≤ nth x 3) && (inb 0 1 (nth x 4) && (decide (i = 0) || shLess last x)))))) := by
    unfold iceRow
    simp only [inAll, List.all_cons, List.all_nil, Bool.and_true, Bool.and_assoc]
  rw [hrow]
  generalize nth x 0 = x0 at *
  generalize nth x 1 = x1 at *
  generalize nth x 2 = x2 at *
  generalize nth x 3 = x3 at *
  generalize nth x 4 = x4 at *
  generalize (decide (i = 0) || shLess last x) = s at *
  have hb0 : inAll 0 7 [x0] = inb 0 7 x0 := by simp [inAll]
  have hb1 : inAll 0 11 [x1] = inb 0 11 x1 := by simp [inAll]
  have hb4 : inAll 0 1 [x4] = inb 0 1 x4 := by simp [inAll]
  obtain ⟨q2, hb2⟩ : ∃ q, inAll 0 2800 [x2, x3] = q := ⟨_, rfl⟩
  obtain ⟨q4, ha4⟩ : ∃ q, inb 0 1 x4 = q := ⟨_, rfl⟩
  obtain ⟨q1, ha1⟩ : ∃ q, inb 0 11 x1 = q := ⟨_, rfl⟩
  obtain ⟨q0, ha0⟩ : ∃ q, inb 0 7 x0 = q := ⟨_, rfl⟩
  have hri2 : ∀ W : World, w.Exts W → q0 = true → q1 = true → Calls Tryz.prog 61 #[vl, .slice (some ⟨b, o, none⟩) 5 c] W fun e w' => e = .returned (.bool s) ∧ W.Exts w' := fun W hE e0 e1 => hri W hE (by rw [e0] at ha0; unfold inb at ha0; simp at ha0; omega) (by rw [e1] at ha1; unfold inb at ha1; simp at ha1; omega)
  rw [ha0] at hb0
  rw [ha1] at hb1
  rw [ha4] at hb4
  rw [ha0, ha1, ha4, hb2]
  have HB0 := Lib.hid hb0
  clear hb0
  have HB1 := Lib.hid hb1
  clear hb1
  have HB2 := Lib.hid hb2
  clear hb2
  have HB4 := Lib.hid hb4
  clear hb4
  have HRI := Lib.hid hri2
  clear hri2
  clear h h' hri hrow ha0 ha1 ha4 hlast
  cases q0
  ·
    go_enter Tryz.func65, Tryz.ntmps65
    go_wp2_with fail
    refine wp_region_callsS 43 (fun i => i == 3 || i == 4 || i == 9 || i == 10 || i == 19 || i == 20 || i == 35 || i == 36 || i == 41) (fun c v W => IcePhi (iceKv (.bool false) undef undef undef undef) false false false x0 x1 x2 x3 x4 c v W) (fun c => iceKv (.bool false) undef undef undef undef c) (by kernel_rfl) (fun ν => by kernel_rfl) (by kernel_rfl) (by kernel_rfl) (by kernel_rfl) (by kernel_rfl) (by kernel_rfl) ?mono ?known ?_
    rotate_left 2
    apply Exists.intro
    refine ⟨fun ν hkn => ?want, fun ν hkn L hL => ?walk, fun c oc hc hU ν hkn hwt W hE hΦ => ?calls, fun ν hkn W hE hΦ => ?tail⟩
    case walk =>
      repeat (first
        | (refine modTo_free rfl ?_; go_big_quiet_step (fail))
        | (refine modTo_call rfl (hkn _ _ rfl) ?_; go_big_quiet_step (fail))
        | (refine modTo_call rfl rfl ?_; go_big_quiet_step (fail)))
      refine modTo_end ?_
      exact hL
    case mono => exact fun c v W W' h hE => h.mono hE
    case known => exact fun c v W u h hk => h.1 u hk
    case want =>
      intro i oi hi hU
      simp at hU
      rcases hU with (((((((rfl | rfl) | rfl) | rfl) | rfl) | rfl) | rfl) | rfl) | rfl
      all_goals
        simp only [List.getElem?_cons_succ, List.getElem?_cons_zero, Option.some.injEq] at hi
        subst hi
        first
          | exact .inl rfl
          | exact .inr ⟨rfl, fun W => ⟨fun u h => (by first | (cases h; done) | (cases h; rfl)), fun h => (by cases h), fun h => (by first | (cases h; done) | (intro h2; cases h2)), fun h => (by first | (cases h; done) | (intro h2; cases h2)), fun h => (by first | (cases h; done) | (intro h2; cases h2))⟩⟩
    case calls =>
      have hwW : w.Exts W := World.Exts.trans exq hE
      simp at hU
      rcases hU with (((((((rfl | rfl) | rfl) | rfl) | rfl) | rfl) | rfl) | rfl) | rfl
      · simp only [List.getElem?_cons_succ, List.getElem?_cons_zero, Option.some.injEq] at hc
        subst hc
        first
          | exact absurd (show false = true from hwt) (by decide)
          | (skip
             exact .inr ⟨.slice (some ⟨W.heap.size, 0, none⟩) 1 1, W.alloc (.cells #[.int .i64 x0] 3), by kernel_rfl, exq, ⟨fun u h => (by cases h), fun _ => (row_lit (enc := fun x : Int => [.int .i64 x]) (k := 1) W #[.int .i64 x0] 3 [x0] _ 1 rfl rfl rfl (fun _ _ => rfl) (by simp)).2, fun e => (by cases e), fun e => (by cases e), fun e => (by cases e)⟩⟩)
      · simp only [List.getElem?_cons_succ, List.getElem?_cons_zero, Option.some.injEq] at hc
        subst hc
        first
          | exact absurd (show false = true from hwt) (by decide)
          | (skip
             have hrw := (hΦ 3 rfl ⟨⟨3, .data⟩, by simp, rfl, rfl⟩).2.1 rfl
             refine Oper.gives_fn (xs := [.const (.int .i64 0), .const (.int .i64 7), .tmp 10]) rfl rfl rfl (enters_of Tryz.func56 (by kernel_rfl) rfl) ?_ rfl
             refine (sheet_in_any 0 7 (ν 3) [x0] W hrw).mono ?_
             rintro e W' ⟨rfl, h3⟩
             exact ⟨_, rfl, h3, ⟨fun u hu => (by cases hu; rw [HB0.out]), fun e => (by cases e), fun e => (by cases e), fun e => (by cases e), fun e => (by cases e)⟩⟩)
      · simp only [List.getElem?_cons_succ, List.getElem?_cons_zero, Option.some.injEq] at hc
        subst hc
        first
          | exact absurd (show false = true from hwt) (by decide)
          | (skip
             exact .inr ⟨.slice (some ⟨W.heap.size, 0, none⟩) 1 1, W.alloc (.cells #[.int .i64 x1] 3), by kernel_rfl, exq, ⟨fun u h => (by cases h), fun e => (by cases e), fun _ _ => (row_lit (enc := fun x : Int => [.int .i64 x]) (k := 1) W #[.int .i64 x1] 3 [x1] _ 1 rfl rfl rfl (fun _ _ => rfl) (by simp)).2, fun e => (by cases e), fun e => (by cases e)⟩⟩)
      · simp only [List.getElem?_cons_succ, List.getElem?_cons_zero, Option.some.injEq] at hc
        subst hc
        first
          | exact absurd (show false = true from hwt) (by decide)
          | (skip
             have hrw := (hΦ 9 rfl ⟨⟨9, .data⟩, by simp, rfl, rfl⟩).2.2.1 rfl rfl
             refine Oper.gives_fn (xs := [.const (.int .i64 0), .const (.int .i64 11), .tmp 16]) rfl rfl rfl (enters_of Tryz.func56 (by kernel_rfl) rfl) ?_ rfl
             refine (sheet_in_any 0 11 (ν 9) [x1] W hrw).mono ?_
             rintro e W' ⟨rfl, h3⟩
             exact ⟨_, rfl, h3, ⟨fun u hu => (by cases hu; rw [HB1.out]), fun e => (by cases e), fun e => (by cases e), fun e => (by cases e), fun e => (by cases e)⟩⟩)
      · simp only [List.getElem?_cons_succ, List.getElem?_cons_zero, Option.some.injEq] at hc
        subst hc
        first
          | exact absurd (show false = true from hwt) (by decide)
          | (skip
             exact .inr ⟨.slice (some ⟨W.heap.size, 0, none⟩) 2 2, W.alloc (.cells #[.int .i64 x2, .int .i64 x3] 3), by kernel_rfl, exq, ⟨fun u h => (by cases h), fun e => (by cases e), fun e => (by cases e), fun _ _ => (row_lit (enc := fun x : Int => [.int .i64 x]) (k := 1) W #[.int .i64 x2, .int .i64 x3] 3 [x2, x3] _ 2 rfl rfl rfl (fun _ _ => rfl) (by simp)).2, fun e => (by cases e)⟩⟩)
      · simp only [List.getElem?_cons_succ, List.getElem?_cons_zero, Option.some.injEq] at hc
        subst hc
        first
          | exact absurd (show false = true from hwt) (by decide)
          | (skip
             have hrw := (hΦ 19 rfl ⟨⟨19, .data⟩, by simp, rfl, rfl⟩).2.2.2.1 rfl rfl
             refine Oper.gives_fn (xs := [.const (.int .i64 0), .const (.int .i64 2800), .tmp 26]) rfl rfl rfl (enters_of Tryz.func56 (by kernel_rfl) rfl) ?_ rfl
             refine (sheet_in_any 0 2800 (ν 19) [x2, x3] W hrw).mono ?_
             rintro e W' ⟨rfl, h3⟩
             exact ⟨_, rfl, h3, ⟨fun u hu => (by cases hu; rw [HB2.out]), fun e => (by cases e), fun e => (by cases e), fun e => (by cases e), fun e => (by cases e)⟩⟩)
      · simp only [List.getElem?_cons_succ, List.getElem?_cons_zero, Option.some.injEq] at hc
        subst hc
        first
          | exact absurd (show false = true from hwt) (by decide)
          | (skip
             exact .inr ⟨.slice (some ⟨W.heap.size, 0, none⟩) 1 1, W.alloc (.cells #[.int .i64 x4] 3), by kernel_rfl, exq, ⟨fun u h => (by cases h), fun e => (by cases e), fun e => (by cases e), fun e => (by cases e), fun _ _ => (row_lit (enc := fun x : Int => [.int .i64 x]) (k := 1) W #[.int .i64 x4] 3 [x4] _ 1 rfl rfl rfl (fun _ _ => rfl) (by simp)).2⟩⟩)
      · simp only [List.getElem?_cons_succ, List.getElem?_cons_zero, Option.some.injEq] at hc
        subst hc
        first
          | exact absurd (show false = true from hwt) (by decide)
          | (skip
             have hrw := (hΦ 35 rfl ⟨⟨35, .data⟩, by simp, rfl, rfl⟩).2.2.2.2 rfl rfl
             refine Oper.gives_fn (xs := [.const (.int .i64 0), .const (.int .i64 1), .tmp 42]) rfl rfl rfl (enters_of Tryz.func56 (by kernel_rfl) rfl) ?_ rfl
             refine (sheet_in_any 0 1 (ν 35) [x4] W hrw).mono ?_
             rintro e W' ⟨rfl, h3⟩
             exact ⟨_, rfl, h3, ⟨fun u hu => (by cases hu; rw [HB4.out]), fun e => (by cases e), fun e => (by cases e), fun e => (by cases e), fun e => (by cases e)⟩⟩)
      · simp only [List.getElem?_cons_succ, List.getElem?_cons_zero, Option.some.injEq] at hc
        subst hc
        first
          | exact absurd (show false = true from hwt) (by decide)
          | (skip
             refine Oper.gives_fn rfl rfl rfl (enters_of Tryz.func61 (by kernel_rfl) rfl) ?_ rfl
             refine (HRI.out W hwW (by first | rfl | trivial) (by first | rfl | trivial)).mono ?_
             rintro e W' ⟨rfl, h3⟩
             exact ⟨_, rfl, h3, ⟨fun u hu => (by cases hu; rfl), fun e => (by cases e), fun e => (by cases e), fun e => (by cases e), fun e => (by cases e)⟩⟩)
    case tail =>
      have hwW : w.Exts W := World.Exts.trans exq hE
      simp only [List.drop_succ_cons, List.drop_zero]
      clear hΦ hkn
      go_wp2_with fail
      go_ret
      exact ⟨rfl, hwW⟩
  cases q1
  ·
    go_enter Tryz.func65, Tryz.ntmps65
    go_wp2_with fail
    refine wp_region_callsS 43 (fun i => i == 3 || i == 4 || i == 9 || i == 10 || i == 19 || i == 20 || i == 35 || i == 36 || i == 41) (fun c v W => IcePhi (iceKv (.bool true) (.bool false) undef undef undef) true false false x0 x1 x2 x3 x4 c v W) (fun c => iceKv (.bool true) (.bool false) undef undef undef c) (by kernel_rfl) (fun ν => by kernel_rfl) (by kernel_rfl) (by kernel_rfl) (by kernel_rfl) (by kernel_rfl) (by kernel_rfl) ?mono ?known ?_
    rotate_left 2
    apply Exists.intro
    refine ⟨fun ν hkn => ?want, fun ν hkn L hL => ?walk, fun c oc hc hU ν hkn hwt W hE hΦ => ?calls, fun ν hkn W hE hΦ => ?tail⟩
    case walk =>
      repeat (first
        | (refine modTo_free rfl ?_; go_big_quiet_step (fail))
        | (refine modTo_call rfl (hkn _ _ rfl) ?_; go_big_quiet_step (fail))
        | (refine modTo_call rfl rfl ?_; go_big_quiet_step (fail)))
      refine modTo_end ?_
      exact hL
    case mono => exact fun c v W W' h hE => h.mono hE
    case known => exact fun c v W u h hk => h.1 u hk
    case want =>
      intro i oi hi hU
      simp at hU
      rcases hU with (((((((rfl | rfl) | rfl) | rfl) | rfl) | rfl) | rfl) | rfl) | rfl
      all_goals
        simp only [List.getElem?_cons_succ, List.getElem?_cons_zero, Option.some.injEq] at hi
        subst hi
        first
          | exact .inl rfl
          | exact .inr ⟨rfl, fun W => ⟨fun u h => (by first | (cases h; done) | (cases h; rfl)), fun h => (by cases h), fun h => (by first | (cases h; done) | (intro h2; cases h2)), fun h => (by first | (cases h; done) | (intro h2; cases h2)), fun h => (by first | (cases h; done) | (intro h2; cases h2))⟩⟩
    case calls =>
      have hwW : w.Exts W := World.Exts.trans exq hE
      simp at hU
      rcases hU with (((((((rfl | rfl) | rfl) | rfl) | rfl) | rfl) | rfl) | rfl) | rfl
      · simp only [List.getElem?_cons_succ, List.getElem?_cons_zero, Option.some.injEq] at hc
        subst hc
        first
          | exact absurd (show false = true from hwt) (by decide)
          | (skip
             exact .inr ⟨.slice (some ⟨W.heap.size, 0, none⟩) 1 1, W.alloc (.cells #[.int .i64 x0] 3), by kernel_rfl, exq, ⟨fun u h => (by cases h), fun _ => (row_lit (enc := fun x : Int => [.int .i64 x]) (k := 1) W #[.int .i64 x0] 3 [x0] _ 1 rfl rfl rfl (fun _ _ => rfl) (by simp)).2, fun e => (by cases e), fun e => (by cases e), fun e => (by cases e)⟩⟩)
      · simp only [List.getElem?_cons_succ, List.getElem?_cons_zero, Option.some.injEq] at hc
        subst hc
        first
          | exact absurd (show false = true from hwt) (by decide)
          | (skip
             have hrw := (hΦ 3 rfl ⟨⟨3, .data⟩, by simp, rfl, rfl⟩).2.1 rfl
             refine Oper.gives_fn (xs := [.const (.int .i64 0), .const (.int .i64 7), .tmp 10]) rfl rfl rfl (enters_of Tryz.func56 (by kernel_rfl) rfl) ?_ rfl
             refine (sheet_in_any 0 7 (ν 3) [x0] W hrw).mono ?_
             rintro e W' ⟨rfl, h3⟩
             exact ⟨_, rfl, h3, ⟨fun u hu => (by cases hu; rw [HB0.out]), fun e => (by cases e), fun e => (by cases e), fun e => (by cases e), fun e => (by cases e)⟩⟩)
      · simp only [List.getElem?_cons_succ, List.getElem?_cons_zero, Option.some.injEq] at hc
        subst hc
        first
          | exact absurd (show false = true from hwt) (by decide)
          | (skip
             exact .inr ⟨.slice (some ⟨W.heap.size, 0, none⟩) 1 1, W.alloc (.cells #[.int .i64 x1] 3), by kernel_rfl, exq, ⟨fun u h => (by cases h), fun e => (by cases e), fun _ _ => (row_lit (enc := fun x : Int => [.int .i64 x]) (k := 1) W #[.int .i64 x1] 3 [x1] _ 1 rfl rfl rfl (fun _ _ => rfl) (by simp)).2, fun e => (by cases e), fun e => (by cases e)⟩⟩)
      · simp only [List.getElem?_cons_succ, List.getElem?_cons_zero, Option.some.injEq] at hc
        subst hc
        first
          | exact absurd (show false = true from hwt) (by decide)
          | (skip
             have hrw := (hΦ 9 rfl ⟨⟨9, .data⟩, by simp, rfl, rfl⟩).2.2.1 rfl rfl
             refine Oper.gives_fn (xs := [.const (.int .i64 0), .const (.int .i64 11), .tmp 16]) rfl rfl rfl (enters_of Tryz.func56 (by kernel_rfl) rfl) ?_ rfl
             refine (sheet_in_any 0 11 (ν 9) [x1] W hrw).mono ?_
             rintro e W' ⟨rfl, h3⟩
             exact ⟨_, rfl, h3, ⟨fun u hu => (by cases hu; rw [HB1.out]), fun e => (by cases e), fun e => (by cases e), fun e => (by cases e), fun e => (by cases e)⟩⟩)
      · simp only [List.getElem?_cons_succ, List.getElem?_cons_zero, Option.some.injEq] at hc
        subst hc
        first
          | exact absurd (show false = true from hwt) (by decide)
          | (skip
             exact .inr ⟨.slice (some ⟨W.heap.size, 0, none⟩) 2 2, W.alloc (.cells #[.int .i64 x2, .int .i64 x3] 3), by kernel_rfl, exq, ⟨fun u h => (by cases h), fun e => (by cases e), fun e => (by cases e), fun _ _ => (row_lit (enc := fun x : Int => [.int .i64 x]) (k := 1) W #[.int .i64 x2, .int .i64 x3] 3 [x2, x3] _ 2 rfl rfl rfl (fun _ _ => rfl) (by simp)).2, fun e => (by cases e)⟩⟩)
      · simp only [List.getElem?_cons_succ, List.getElem?_cons_zero, Option.some.injEq] at hc
        subst hc
        first
          | exact absurd (show false = true from hwt) (by decide)
          | (skip
             have hrw := (hΦ 19 rfl ⟨⟨19, .data⟩, by simp, rfl, rfl⟩).2.2.2.1 rfl rfl
             refine Oper.gives_fn (xs := [.const (.int .i64 0), .const (.int .i64 2800), .tmp 26]) rfl rfl rfl (enters_of Tryz.func56 (by kernel_rfl) rfl) ?_ rfl
             refine (sheet_in_any 0 2800 (ν 19) [x2, x3] W hrw).mono ?_
             rintro e W' ⟨rfl, h3⟩
             exact ⟨_, rfl, h3, ⟨fun u hu => (by cases hu; rw [HB2.out]), fun e => (by cases e), fun e => (by cases e), fun e => (by cases e), fun e => (by cases e)⟩⟩)
      · simp only [List.getElem?_cons_succ, List.getElem?_cons_zero, Option.some.injEq] at hc
        subst hc
        first
          | exact absurd (show false = true from hwt) (by decide)
          | (skip
             exact .inr ⟨.slice (some ⟨W.heap.size, 0, none⟩) 1 1, W.alloc (.cells #[.int .i64 x4] 3), by kernel_rfl, exq, ⟨fun u h => (by cases h), fun e => (by cases e), fun e => (by cases e), fun e => (by cases e), fun _ _ => (row_lit (enc := fun x : Int => [.int .i64 x]) (k := 1) W #[.int .i64 x4] 3 [x4] _ 1 rfl rfl rfl (fun _ _ => rfl) (by simp)).2⟩⟩)
      · simp only [List.getElem?_cons_succ, List.getElem?_cons_zero, Option.some.injEq] at hc
        subst hc
        first
          | exact absurd (show false = true from hwt) (by decide)
          | (skip
             have hrw := (hΦ 35 rfl ⟨⟨35, .data⟩, by simp, rfl, rfl⟩).2.2.2.2 rfl rfl
             refine Oper.gives_fn (xs := [.const (.int .i64 0), .const (.int .i64 1), .tmp 42]) rfl rfl rfl (enters_of Tryz.func56 (by kernel_rfl) rfl) ?_ rfl
             refine (sheet_in_any 0 1 (ν 35) [x4] W hrw).mono ?_
             rintro e W' ⟨rfl, h3⟩
             exact ⟨_, rfl, h3, ⟨fun u hu => (by cases hu; rw [HB4.out]), fun e => (by cases e), fun e => (by cases e), fun e => (by cases e), fun e => (by cases e)⟩⟩)
      · simp only [List.getElem?_cons_succ, List.getElem?_cons_zero, Option.some.injEq] at hc
        subst hc
        first
          | exact absurd (show false = true from hwt) (by decide)
          | (skip
             refine Oper.gives_fn rfl rfl rfl (enters_of Tryz.func61 (by kernel_rfl) rfl) ?_ rfl
             refine (HRI.out W hwW (by first | rfl | trivial) (by first | rfl | trivial)).mono ?_
             rintro e W' ⟨rfl, h3⟩
             exact ⟨_, rfl, h3, ⟨fun u hu => (by cases hu; rfl), fun e => (by cases e), fun e => (by cases e), fun e => (by cases e), fun e => (by cases e)⟩⟩)
    case tail =>
      have hwW : w.Exts W := World.Exts.trans exq hE
      simp only [List.drop_succ_cons, List.drop_zero]
      clear hΦ hkn
      go_wp2_with fail
      go_ret
      exact ⟨rfl, hwW⟩
  cases q2
  ·
    go_enter Tryz.func65, Tryz.ntmps65
    go_wp2_with fail
    refine wp_region_callsS 43 (fun i => i == 3 || i == 4 || i == 9 || i == 10 || i == 19 || i == 20 || i == 35 || i == 36 || i == 41) (fun c v W => IcePhi (iceKv (.bool true) (.bool true) (.bool false) undef undef) true true false x0 x1 x2 x3 x4 c v W) (fun c => iceKv (.bool true) (.bool true) (.bool false) undef undef c) (by kernel_rfl) (fun ν => by kernel_rfl) (by kernel_rfl) (by kernel_rfl) (by kernel_rfl) (by kernel_rfl) (by kernel_rfl) ?mono ?known ?_
    rotate_left 2
    apply Exists.intro
    refine ⟨fun ν hkn => ?want, fun ν hkn L hL => ?walk, fun c oc hc hU ν hkn hwt W hE hΦ => ?calls, fun ν hkn W hE hΦ => ?tail⟩
    case walk =>
      repeat (first
        | (refine modTo_free rfl ?_; go_big_quiet_step (fail))
        | (refine modTo_call rfl (hkn _ _ rfl) ?_; go_big_quiet_step (fail))
        | (refine modTo_call rfl rfl ?_; go_big_quiet_step (fail)))
      refine modTo_end ?_
      exact hL
    case mono => exact fun c v W W' h hE => h.mono hE
    case known => exact fun c v W u h hk => h.1 u hk
    case want =>
      intro i oi hi hU
      simp at hU
      rcases hU with (((((((rfl | rfl) | rfl) | rfl) | rfl) | rfl) | rfl) | rfl) | rfl
      all_goals
        simp only [List.getElem?_cons_succ, List.getElem?_cons_zero, Option.some.injEq] at hi
        subst hi
        first
          | exact .inl rfl
          | exact .inr ⟨rfl, fun W => ⟨fun u h => (by first | (cases h; done) | (cases h; rfl)), fun h => (by cases h), fun h => (by first | (cases h; done) | (intro h2; cases h2)), fun h => (by first | (cases h; done) | (intro h2; cases h2)), fun h => (by first | (cases h; done) | (intro h2; cases h2))⟩⟩
    case calls =>
      have hwW : w.Exts W := World.Exts.trans exq hE
      simp at hU
      rcases hU with (((((((rfl | rfl) | rfl) | rfl) | rfl) | rfl) | rfl) | rfl) | rfl
      · simp only [List.getElem?_cons_succ, List.getElem?_cons_zero, Option.some.injEq] at hc
        subst hc
        first
          | exact absurd (show false = true from hwt) (by decide)
          | (skip
             exact .inr ⟨.slice (some ⟨W.heap.size, 0, none⟩) 1 1, W.alloc (.cells #[.int .i64 x0] 3), by kernel_rfl, exq, ⟨fun u h => (by cases h), fun _ => (row_lit (enc := fun x : Int => [.int .i64 x]) (k := 1) W #[.int .i64 x0] 3 [x0] _ 1 rfl rfl rfl (fun _ _ => rfl) (by simp)).2, fun e => (by cases e), fun e => (by cases e), fun e => (by cases e)⟩⟩)
      · simp only [List.getElem?_cons_succ, List.getElem?_cons_zero, Option.some.injEq] at hc
        subst hc
        first
          | exact absurd (show false = true from hwt) (by decide)
          | (skip
             have hrw := (hΦ 3 rfl ⟨⟨3, .data⟩, by simp, rfl, rfl⟩).2.1 rfl
             refine Oper.gives_fn (xs := [.const (.int .i64 0), .const (.int .i64 7), .tmp 10]) rfl rfl rfl (enters_of Tryz.func56 (by kernel_rfl) rfl) ?_ rfl
             refine (sheet_in_any 0 7 (ν 3) [x0] W hrw).mono ?_
             rintro e W' ⟨rfl, h3⟩
             exact ⟨_, rfl, h3, ⟨fun u hu => (by cases hu; rw [HB0.out]), fun e => (by cases e), fun e => (by cases e), fun e => (by cases e), fun e => (by cases e)⟩⟩)
      · simp only [List.getElem?_cons_succ, List.getElem?_cons_zero, Option.some.injEq] at hc
        subst hc
        first
          | exact absurd (show false = true from hwt) (by decide)
          | (skip
             exact .inr ⟨.slice (some ⟨W.heap.size, 0, none⟩) 1 1, W.alloc (.cells #[.int .i64 x1] 3), by kernel_rfl, exq, ⟨fun u h => (by cases h), fun e => (by cases e), fun _ _ => (row_lit (enc := fun x : Int => [.int .i64 x]) (k := 1) W #[.int .i64 x1] 3 [x1] _ 1 rfl rfl rfl (fun _ _ => rfl) (by simp)).2, fun e => (by cases e), fun e => (by cases e)⟩⟩)
      · simp only [List.getElem?_cons_succ, List.getElem?_cons_zero, Option.some.injEq] at hc
        subst hc
        first
          | exact absurd (show false = true from hwt) (by decide)
          | (skip
             have hrw := (hΦ 9 rfl ⟨⟨9, .data⟩, by simp, rfl, rfl⟩).2.2.1 rfl rfl
             refine Oper.gives_fn (xs := [.const (.int .i64 0), .const (.int .i64 11), .tmp 16]) rfl rfl rfl (enters_of Tryz.func56 (by kernel_rfl) rfl) ?_ rfl
             refine (sheet_in_any 0 11 (ν 9) [x1] W hrw).mono ?_
             rintro e W' ⟨rfl, h3⟩
             exact ⟨_, rfl, h3, ⟨fun u hu => (by cases hu; rw [HB1.out]), fun e => (by cases e), fun e => (by cases e), fun e => (by cases e), fun e => (by cases e)⟩⟩)
      · simp only [List.getElem?_cons_succ, List.getElem?_cons_zero, Option.some.injEq] at hc
        subst hc
        first
          | exact absurd (show false = true from hwt) (by decide)
          | (skip
             exact .inr ⟨.slice (some ⟨W.heap.size, 0, none⟩) 2 2, W.alloc (.cells #[.int .i64 x2, .int .i64 x3] 3), by kernel_rfl, exq, ⟨fun u h => (by cases h), fun e => (by cases e), fun e => (by cases e), fun _ _ => (row_lit (enc := fun x : Int => [.int .i64 x]) (k := 1) W #[.int .i64 x2, .int .i64 x3] 3 [x2, x3] _ 2 rfl rfl rfl (fun _ _ => rfl) (by simp)).2, fun e => (by cases e)⟩⟩)
      · simp only [List.getElem?_cons_succ, List.getElem?_cons_zero, Option.some.injEq] at hc
        subst hc
        first
          | exact absurd (show false = true from hwt) (by decide)
          | (skip
             have hrw := (hΦ 19 rfl ⟨⟨19, .data⟩, by simp, rfl, rfl⟩).2.2.2.1 rfl rfl
             refine Oper.gives_fn (xs := [.const (.int .i64 0), .const (.int .i64 2800), .tmp 26]) rfl rfl rfl (enters_of Tryz.func56 (by kernel_rfl) rfl) ?_ rfl
             refine (sheet_in_any 0 2800 (ν 19) [x2, x3] W hrw).mono ?_
             rintro e W' ⟨rfl, h3⟩
             exact ⟨_, rfl, h3, ⟨fun u hu => (by cases hu; rw [HB2.out]), fun e => (by cases e), fun e => (by cases e), fun e => (by cases e), fun e => (by cases e)⟩⟩)
      · simp only [List.getElem?_cons_succ, List.getElem?_cons_zero, Option.some.injEq] at hc
        subst hc
        first
          | exact absurd (show false = true from hwt) (by decide)
          | (skip
             exact .inr ⟨.slice (some ⟨W.heap.size, 0, none⟩) 1 1, W.alloc (.cells #[.int .i64 x4] 3), by kernel_rfl, exq, ⟨fun u h => (by cases h), fun e => (by cases e), fun e => (by cases e), fun e => (by cases e), fun _ _ => (row_lit (enc := fun x : Int => [.int .i64 x]) (k := 1) W #[.int .i64 x4] 3 [x4] _ 1 rfl rfl rfl (fun _ _ => rfl) (by simp)).2⟩⟩)
      · simp only [List.getElem?_cons_succ, List.getElem?_cons_zero, Option.some.injEq] at hc
        subst hc
        first
          | exact absurd (show false = true from hwt) (by decide)
          | (skip
             have hrw := (hΦ 35 rfl ⟨⟨35, .data⟩, by simp, rfl, rfl⟩).2.2.2.2 rfl rfl
             refine Oper.gives_fn (xs := [.const (.int .i64 0), .const (.int .i64 1), .tmp 42]) rfl rfl rfl (enters_of Tryz.func56 (by kernel_rfl) rfl) ?_ rfl
             refine (sheet_in_any 0 1 (ν 35) [x4] W hrw).mono ?_
             rintro e W' ⟨rfl, h3⟩
             exact ⟨_, rfl, h3, ⟨fun u hu => (by cases hu; rw [HB4.out]), fun e => (by cases e), fun e => (by cases e), fun e => (by cases e), fun e => (by cases e)⟩⟩)
      · simp only [List.getElem?_cons_succ, List.getElem?_cons_zero, Option.some.injEq] at hc
        subst hc
        first
          | exact absurd (show false = true from hwt) (by decide)
          | (skip
             refine Oper.gives_fn rfl rfl rfl (enters_of Tryz.func61 (by kernel_rfl) rfl) ?_ rfl
             refine (HRI.out W hwW (by first | rfl | trivial) (by first | rfl | trivial)).mono ?_
             rintro e W' ⟨rfl, h3⟩
             exact ⟨_, rfl, h3, ⟨fun u hu => (by cases hu; rfl), fun e => (by cases e), fun e => (by cases e), fun e => (by cases e), fun e => (by cases e)⟩⟩)
    case tail =>
      have hwW : w.Exts W := World.Exts.trans exq hE
      simp only [List.drop_succ_cons, List.drop_zero]
      clear hΦ hkn
      go_wp2_with fail
      go_ret
      exact ⟨rfl, hwW⟩
  cases h3 : decide (x2 ≤ x3)
  ·
    go_enter Tryz.func65, Tryz.ntmps65
    go_wp2_with fail
    refine wp_region_callsS 43 (fun i => i == 3 || i == 4 || i == 9 || i == 10 || i == 19 || i == 20 || i == 35 || i == 36 || i == 41) (fun c v W => IcePhi (iceKv (.bool true) (.bool true) (.bool true) undef undef) true true false x0 x1 x2 x3 x4 c v W) (fun c => iceKv (.bool true) (.bool true) (.bool true) undef undef c) (by kernel_rfl) (fun ν => by kernel_rfl) (by kernel_rfl) (by kernel_rfl) (by kernel_rfl) (by kernel_rfl) (by kernel_rfl) ?mono ?known ?_
    rotate_left 2
    apply Exists.intro
    refine ⟨fun ν hkn => ?want, fun ν hkn L hL => ?walk, fun c oc hc hU ν hkn hwt W hE hΦ => ?calls, fun ν hkn W hE hΦ => ?tail⟩
    case walk =>
      repeat (first
        | (refine modTo_free rfl ?_; go_big_quiet_step (fail))
        | (refine modTo_call rfl (hkn _ _ rfl) ?_; go_big_quiet_step (fail))
        | (refine modTo_call rfl rfl ?_; go_big_quiet_step (fail)))
      refine modTo_end ?_
      exact hL
    case mono => exact fun c v W W' h hE => h.mono hE
    case known => exact fun c v W u h hk => h.1 u hk
    case want =>
      intro i oi hi hU
      simp at hU
      rcases hU with (((((((rfl | rfl) | rfl) | rfl) | rfl) | rfl) | rfl) | rfl) | rfl
      all_goals
        simp only [List.getElem?_cons_succ, List.getElem?_cons_zero, Option.some.injEq] at hi
        subst hi
        first
          | exact .inl rfl
          | exact .inr ⟨rfl, fun W => ⟨fun u h => (by first | (cases h; done) | (cases h; rfl)), fun h => (by cases h), fun h => (by first | (cases h; done) | (intro h2; cases h2)), fun h => (by first | (cases h; done) | (intro h2; cases h2)), fun h => (by first | (cases h; done) | (intro h2; cases h2))⟩⟩
    case calls =>
      have hwW : w.Exts W := World.Exts.trans exq hE
      simp at hU
      rcases hU with (((((((rfl | rfl) | rfl) | rfl) | rfl) | rfl) | rfl) | rfl) | rfl
      · simp only [List.getElem?_cons_succ, List.getElem?_cons_zero, Option.some.injEq] at hc
        subst hc
        first
          | exact absurd (show false = true from hwt) (by decide)
          | (skip
             exact .inr ⟨.slice (some ⟨W.heap.size, 0, none⟩) 1 1, W.alloc (.cells #[.int .i64 x0] 3), by kernel_rfl, exq, ⟨fun u h => (by cases h), fun _ => (row_lit (enc := fun x : Int => [.int .i64 x]) (k := 1) W #[.int .i64 x0] 3 [x0] _ 1 rfl rfl rfl (fun _ _ => rfl) (by simp)).2, fun e => (by cases e), fun e => (by cases e), fun e => (by cases e)⟩⟩)
      · simp only [List.getElem?_cons_succ, List.getElem?_cons_zero, Option.some.injEq] at hc
        subst hc
        first
          | exact absurd (show false = true from hwt) (by decide)
          | (skip
             have hrw := (hΦ 3 rfl ⟨⟨3, .data⟩, by simp, rfl, rfl⟩).2.1 rfl
             refine Oper.gives_fn (xs := [.const (.int .i64 0), .const (.int .i64 7), .tmp 10]) rfl rfl rfl (enters_of Tryz.func56 (by kernel_rfl) rfl) ?_ rfl
             refine (sheet_in_any 0 7 (ν 3) [x0] W hrw).mono ?_
             rintro e W' ⟨rfl, h3⟩
             exact ⟨_, rfl, h3, ⟨fun u hu => (by cases hu; rw [HB0.out]), fun e => (by cases e), fun e => (by cases e), fun e => (by cases e), fun e => (by cases e)⟩⟩)
      · simp only [List.getElem?_cons_succ, List.getElem?_cons_zero, Option.some.injEq] at hc
        subst hc
        first
          | exact absurd (show false = true from hwt) (by decide)
          | (skip
             exact .inr ⟨.slice (some ⟨W.heap.size, 0, none⟩) 1 1, W.alloc (.cells #[.int .i64 x1] 3), by kernel_rfl, exq, ⟨fun u h => (by cases h), fun e => (by cases e), fun _ _ => (row_lit (enc := fun x : Int => [.int .i64 x]) (k := 1) W #[.int .i64 x1] 3 [x1] _ 1 rfl rfl rfl (fun _ _ => rfl) (by simp)).2, fun e => (by cases e), fun e => (by cases e)⟩⟩)
      · simp only [List.getElem?_cons_succ, List.getElem?_cons_zero, Option.some.injEq] at hc
        subst hc
        first
          | exact absurd (show false = true from hwt) (by decide)
          | (skip
             have hrw := (hΦ 9 rfl ⟨⟨9, .data⟩, by simp, rfl, rfl⟩).2.2.1 rfl rfl
             refine Oper.gives_fn (xs := [.const (.int .i64 0), .const (.int .i64 11), .tmp 16]) rfl rfl rfl (enters_of Tryz.func56 (by kernel_rfl) rfl) ?_ rfl
             refine (sheet_in_any 0 11 (ν 9) [x1] W hrw).mono ?_
             rintro e W' ⟨rfl, h3⟩
             exact ⟨_, rfl, h3, ⟨fun u hu => (by cases hu; rw [HB1.out]), fun e => (by cases e), fun e => (by cases e), fun e => (by cases e), fun e => (by cases e)⟩⟩)
      · simp only [List.getElem?_cons_succ, List.getElem?_cons_zero, Option.some.injEq] at hc
        subst hc
        first
          | exact absurd (show false = true from hwt) (by decide)
          | (skip
             exact .inr ⟨.slice (some ⟨W.heap.size, 0, none⟩) 2 2, W.alloc (.cells #[.int .i64 x2, .int .i64 x3] 3), by kernel_rfl, exq, ⟨fun u h => (by cases h), fun e => (by cases e), fun e => (by cases e), fun _ _ => (row_lit (enc := fun x : Int => [.int .i64 x]) (k := 1) W #[.int .i64 x2, .int .i64 x3] 3 [x2, x3] _ 2 rfl rfl rfl (fun _ _ => rfl) (by simp)).2, fun e => (by cases e)⟩⟩)
      · simp only [List.getElem?_cons_succ, List.getElem?_cons_zero, Option.some.injEq] at hc
        subst hc
        first
          | exact absurd (show false = true from hwt) (by decide)
          | (skip
             have hrw := (hΦ 19 rfl ⟨⟨19, .data⟩, by simp, rfl, rfl⟩).2.2.2.1 rfl rfl
             refine Oper.gives_fn (xs := [.const (.int .i64 0), .const (.int .i64 2800), .tmp 26]) rfl rfl rfl (enters_of Tryz.func56 (by kernel_rfl) rfl) ?_ rfl
             refine (sheet_in_any 0 2800 (ν 19) [x2, x3] W hrw).mono ?_
             rintro e W' ⟨rfl, h3⟩
             exact ⟨_, rfl, h3, ⟨fun u hu => (by cases hu; rw [HB2.out]), fun e => (by cases e), fun e => (by cases e), fun e => (by cases e), fun e => (by cases e)⟩⟩)
      · simp only [List.getElem?_cons_succ, List.getElem?_cons_zero, Option.some.injEq] at hc
        subst hc
        first
          | exact absurd (show false = true from hwt) (by decide)
          | (skip
             exact .inr ⟨.slice (some ⟨W.heap.size, 0, none⟩) 1 1, W.alloc (.cells #[.int .i64 x4] 3), by kernel_rfl, exq, ⟨fun u h => (by cases h), fun e => (by cases e), fun e => (by cases e), fun e => (by cases e), fun _ _ => (row_lit (enc := fun x : Int => [.int .i64 x]) (k := 1) W #[.int .i64 x4] 3 [x4] _ 1 rfl rfl rfl (fun _ _ => rfl) (by simp)).2⟩⟩)
      · simp only [List.getElem?_cons_succ, List.getElem?_cons_zero, Option.some.injEq] at hc
        subst hc
        first
          | exact absurd (show false = true from hwt) (by decide)
          | (skip
             have hrw := (hΦ 35 rfl ⟨⟨35, .data⟩, by simp, rfl, rfl⟩).2.2.2.2 rfl rfl
             refine Oper.gives_fn (xs := [.const (.int .i64 0), .const (.int .i64 1), .tmp 42]) rfl rfl rfl (enters_of Tryz.func56 (by kernel_rfl) rfl) ?_ rfl
             refine (sheet_in_any 0 1 (ν 35) [x4] W hrw).mono ?_
             rintro e W' ⟨rfl, h3⟩
             exact ⟨_, rfl, h3, ⟨fun u hu => (by cases hu; rw [HB4.out]), fun e => (by cases e), fun e => (by cases e), fun e => (by cases e), fun e => (by cases e)⟩⟩)
      · simp only [List.getElem?_cons_succ, List.getElem?_cons_zero, Option.some.injEq] at hc
        subst hc
        first
          | exact absurd (show false = true from hwt) (by decide)
          | (skip
             refine Oper.gives_fn rfl rfl rfl (enters_of Tryz.func61 (by kernel_rfl) rfl) ?_ rfl
             refine (HRI.out W hwW (by first | rfl | trivial) (by first | rfl | trivial)).mono ?_
             rintro e W' ⟨rfl, h3⟩
             exact ⟨_, rfl, h3, ⟨fun u hu => (by cases hu; rfl), fun e => (by cases e), fun e => (by cases e), fun e => (by cases e), fun e => (by cases e)⟩⟩)
    case tail =>
      have hwW : w.Exts W := World.Exts.trans exq hE
      simp only [List.drop_succ_cons, List.drop_zero]
      clear hΦ hkn
      go_wp2_with fail
      go_ret
      exact ⟨rfl, hwW⟩
  cases q4
  ·
    go_enter Tryz.func65, Tryz.ntmps65
    go_wp2_with fail
    refine wp_region_callsS 43 (fun i => i == 3 || i == 4 || i == 9 || i == 10 || i == 19 || i == 20 || i == 35 || i == 36 || i == 41) (fun c v W => IcePhi (iceKv (.bool true) (.bool true) (.bool true) (.bool false) undef) true true true x0 x1 x2 x3 x4 c v W) (fun c => iceKv (.bool true) (.bool true) (.bool true) (.bool false) undef c) (by kernel_rfl) (fun ν => by kernel_rfl) (by kernel_rfl) (by kernel_rfl) (by kernel_rfl) (by kernel_rfl) (by kernel_rfl) ?mono ?known ?_
    rotate_left 2
    apply Exists.intro
    refine ⟨fun ν hkn => ?want, fun ν hkn L hL => ?walk, fun c oc hc hU ν hkn hwt W hE hΦ => ?calls, fun ν hkn W hE hΦ => ?tail⟩
    case walk =>
      repeat (first
        | (refine modTo_free rfl ?_; go_big_quiet_step (fail))
        | (refine modTo_call rfl (hkn _ _ rfl) ?_; go_big_quiet_step (fail))
        | (refine modTo_call rfl rfl ?_; go_big_quiet_step (fail)))
      refine modTo_end ?_
      exact hL
    case mono => exact fun c v W W' h hE => h.mono hE
    case known => exact fun c v W u h hk => h.1 u hk
    case want =>
      intro i oi hi hU
      simp at hU
      rcases hU with (((((((rfl | rfl) | rfl) | rfl) | rfl) | rfl) | rfl) | rfl) | rfl
      all_goals
        simp only [List.getElem?_cons_succ, List.getElem?_cons_zero, Option.some.injEq] at hi
        subst hi
        first
          | exact .inl rfl
          | exact .inr ⟨rfl, fun W => ⟨fun u h => (by first | (cases h; done) | (cases h; rfl)), fun h => (by cases h), fun h => (by first | (cases h; done) | (intro h2; cases h2)), fun h => (by first | (cases h; done) | (intro h2; cases h2)), fun h => (by first | (cases h; done) | (intro h2; cases h2))⟩⟩
    case calls =>
      have hwW : w.Exts W := World.Exts.trans exq hE
      simp at hU
      rcases hU with (((((((rfl | rfl) | rfl) | rfl) | rfl) | rfl) | rfl) | rfl) | rfl
      · simp only [List.getElem?_cons_succ, List.getElem?_cons_zero, Option.some.injEq] at hc
        subst hc
        first
          | exact absurd (show false = true from hwt) (by decide)
          | (skip
             exact .inr ⟨.slice (some ⟨W.heap.size, 0, none⟩) 1 1, W.alloc (.cells #[.int .i64 x0] 3), by kernel_rfl, exq, ⟨fun u h => (by cases h), fun _ => (row_lit (enc := fun x : Int => [.int .i64 x]) (k := 1) W #[.int .i64 x0] 3 [x0] _ 1 rfl rfl rfl (fun _ _ => rfl) (by simp)).2, fun e => (by cases e), fun e => (by cases e), fun e => (by cases e)⟩⟩)
      · simp only [List.getElem?_cons_succ, List.getElem?_cons_zero, Option.some.injEq] at hc
        subst hc
        first
          | exact absurd (show false = true from hwt) (by decide)
          | (skip
             have hrw := (hΦ 3 rfl ⟨⟨3, .data⟩, by simp, rfl, rfl⟩).2.1 rfl
             refine Oper.gives_fn (xs := [.const (.int .i64 0), .const (.int .i64 7), .tmp 10]) rfl rfl rfl (enters_of Tryz.func56 (by kernel_rfl) rfl) ?_ rfl
             refine (sheet_in_any 0 7 (ν 3) [x0] W hrw).mono ?_
             rintro e W' ⟨rfl, h3⟩
             exact ⟨_, rfl, h3, ⟨fun u hu => (by cases hu; rw [HB0.out]), fun e => (by cases e), fun e => (by cases e), fun e => (by cases e), fun e => (by cases e)⟩⟩)
      · simp only [List.getElem?_cons_succ, List.getElem?_cons_zero, Option.some.injEq] at hc
        subst hc
        first
          | exact absurd (show false = true from hwt) (by decide)
          | (skip
             exact .inr ⟨.slice (some ⟨W.heap.size, 0, none⟩) 1 1, W.alloc (.cells #[.int .i64 x1] 3), by kernel_rfl, exq, ⟨fun u h => (by cases h), fun e => (by cases e), fun _ _ => (row_lit (enc := fun x : Int => [.int .i64 x]) (k := 1) W #[.int .i64 x1] 3 [x1] _ 1 rfl rfl rfl (fun _ _ => rfl) (by simp)).2, fun e => (by cases e), fun e => (by cases e)⟩⟩)
      · simp only [List.getElem?_cons_succ, List.getElem?_cons_zero, Option.some.injEq] at hc
        subst hc
        first
          | exact absurd (show false = true from hwt) (by decide)
          | (skip
             have hrw := (hΦ 9 rfl ⟨⟨9, .data⟩, by simp, rfl, rfl⟩).2.2.1 rfl rfl
             refine Oper.gives_fn (xs := [.const (.int .i64 0), .const (.int .i64 11), .tmp 16]) rfl rfl rfl (enters_of Tryz.func56 (by kernel_rfl) rfl) ?_ rfl
             refine (sheet_in_any 0 11 (ν 9) [x1] W hrw).mono ?_
             rintro e W' ⟨rfl, h3⟩
             exact ⟨_, rfl, h3, ⟨fun u hu => (by cases hu; rw [HB1.out]), fun e => (by cases e), fun e => (by cases e), fun e => (by cases e), fun e => (by cases e)⟩⟩)
      · simp only [List.getElem?_cons_succ, List.getElem?_cons_zero, Option.some.injEq] at hc
        subst hc
        first
          | exact absurd (show false = true from hwt) (by decide)
          | (skip
             exact .inr ⟨.slice (some ⟨W.heap.size, 0, none⟩) 2 2, W.alloc (.cells #[.int .i64 x2, .int .i64 x3] 3), by kernel_rfl, exq, ⟨fun u h => (by cases h), fun e => (by cases e), fun e => (by cases e), fun _ _ => (row_lit (enc := fun x : Int => [.int .i64 x]) (k := 1) W #[.int .i64 x2, .int .i64 x3] 3 [x2, x3] _ 2 rfl rfl rfl (fun _ _ => rfl) (by simp)).2, fun e => (by cases e)⟩⟩)
      · simp only [List.getElem?_cons_succ, List.getElem?_cons_zero, Option.some.injEq] at hc
        subst hc
        first
          | exact absurd (show false = true from hwt) (by decide)
          | (skip
             have hrw := (hΦ 19 rfl ⟨⟨19, .data⟩, by simp, rfl, rfl⟩).2.2.2.1 rfl rfl
             refine Oper.gives_fn (xs := [.const (.int .i64 0), .const (.int .i64 2800), .tmp 26]) rfl rfl rfl (enters_of Tryz.func56 (by kernel_rfl) rfl) ?_ rfl
             refine (sheet_in_any 0 2800 (ν 19) [x2, x3] W hrw).mono ?_
             rintro e W' ⟨rfl, h3⟩
             exact ⟨_, rfl, h3, ⟨fun u hu => (by cases hu; rw [HB2.out]), fun e => (by cases e), fun e => (by cases e), fun e => (by cases e), fun e => (by cases e)⟩⟩)
      · simp only [List.getElem?_cons_succ, List.getElem?_cons_zero, Option.some.injEq] at hc
        subst hc
        first
          | exact absurd (show false = true from hwt) (by decide)
          | (skip
             exact .inr ⟨.slice (some ⟨W.heap.size, 0, none⟩) 1 1, W.alloc (.cells #[.int .i64 x4] 3), by kernel_rfl, exq, ⟨fun u h => (by cases h), fun e => (by cases e), fun e => (by cases e), fun e => (by cases e), fun _ _ => (row_lit (enc := fun x : Int => [.int .i64 x]) (k := 1) W #[.int .i64 x4] 3 [x4] _ 1 rfl rfl rfl (fun _ _ => rfl) (by simp)).2⟩⟩)
      · simp only [List.getElem?_cons_succ, List.getElem?_cons_zero, Option.some.injEq] at hc
        subst hc
        first
          | exact absurd (show false = true from hwt) (by decide)
          | (skip
             have hrw := (hΦ 35 rfl ⟨⟨35, .data⟩, by simp, rfl, rfl⟩).2.2.2.2 rfl rfl
             refine Oper.gives_fn (xs := [.const (.int .i64 0), .const (.int .i64 1), .tmp 42]) rfl rfl rfl (enters_of Tryz.func56 (by kernel_rfl) rfl) ?_ rfl
             refine (sheet_in_any 0 1 (ν 35) [x4] W hrw).mono ?_
             rintro e W' ⟨rfl, h3⟩
             exact ⟨_, rfl, h3, ⟨fun u hu => (by cases hu; rw [HB4.out]), fun e => (by cases e), fun e => (by cases e), fun e => (by cases e), fun e => (by cases e)⟩⟩)
      · simp only [List.getElem?_cons_succ, List.getElem?_cons_zero, Option.some.injEq] at hc
        subst hc
        first
          | exact absurd (show false = true from hwt) (by decide)
          | (skip
             refine Oper.gives_fn rfl rfl rfl (enters_of Tryz.func61 (by kernel_rfl) rfl) ?_ rfl
             refine (HRI.out W hwW (by first | rfl | trivial) (by first | rfl | trivial)).mono ?_
             rintro e W' ⟨rfl, h3⟩
             exact ⟨_, rfl, h3, ⟨fun u hu => (by cases hu; rfl), fun e => (by cases e), fun e => (by cases e), fun e => (by cases e), fun e => (by cases e)⟩⟩)
    case tail =>
      have hwW : w.Exts W := World.Exts.trans exq hE
      simp only [List.drop_succ_cons, List.drop_zero]
      clear hΦ hkn
      go_wp2_with fail
      go_ret
      exact ⟨rfl, hwW⟩
  go_enter Tryz.func65, Tryz.ntmps65
  go_wp2_with fail
  refine wp_region_callsS 43 (fun i => i == 3 || i == 4 || i == 9 || i == 10 || i == 19 || i == 20 || i == 35 || i == 36 || i == 41) (fun c v W => IcePhi (iceKv (.bool true) (.bool true) (.bool true) (.bool true) (.bool s)) true true true x0 x1 x2 x3 x4 c v W) (fun c => iceKv (.bool true) (.bool true) (.bool true) (.bool true) (.bool s) c) (by kernel_rfl) (fun ν => by kernel_rfl) (by kernel_rfl) (by kernel_rfl) (by kernel_rfl) (by kernel_rfl) (by kernel_rfl) ?mono ?known ?_
  rotate_left 2
  apply Exists.intro
  refine ⟨fun ν hkn => ?want, fun ν hkn L hL => ?walk, fun c oc hc hU ν hkn hwt W hE hΦ => ?calls, fun ν hkn W hE hΦ => ?tail⟩
  case walk =>
    repeat (first
      | (refine modTo_free rfl ?_; go_big_quiet_step (fail))
      | (refine modTo_call rfl (hkn _ _ rfl) ?_; go_big_quiet_step (fail))
      | (refine modTo_call rfl rfl ?_; go_big_quiet_step (fail)))
    refine modTo_end ?_
    exact hL
  case mono => exact fun c v W W' h hE => h.mono hE
  case known => exact fun c v W u h hk => h.1 u hk
  case want =>
    intro i oi hi hU
    simp at hU
    rcases hU with (((((((rfl | rfl) | rfl) | rfl) | rfl) | rfl) | rfl) | rfl) | rfl
    all_goals
      simp only [List.getElem?_cons_succ, List.getElem?_cons_zero, Option.some.injEq] at hi
      subst hi
      first
        | exact .inl rfl
        | exact .inr ⟨rfl, fun W => ⟨fun u h => (by first | (cases h; done) | (cases h; rfl)), fun h => (by cases h), fun h => (by first | (cases h; done) | (intro h2; cases h2)), fun h => (by first | (cases h; done) | (intro h2; cases h2)), fun h => (by first | (cases h; done) | (intro h2; cases h2))⟩⟩
  case calls =>
    have hwW : w.Exts W := World.Exts.trans exq hE
    simp at hU
    rcases hU with (((((((rfl | rfl) | rfl) | rfl) | rfl) | rfl) | rfl) | rfl) | rfl
    · simp only [List.getElem?_cons_succ, List.getElem?_cons_zero, Option.some.injEq] at hc
      subst hc
      first
        | exact absurd (show false = true from hwt) (by decide)
        | (skip
           exact .inr ⟨.slice (some ⟨W.heap.size, 0, none⟩) 1 1, W.alloc (.cells #[.int .i64 x0] 3), by kernel_rfl, exq, ⟨fun u h => (by cases h), fun _ => (row_lit (enc := fun x : Int => [.int .i64 x]) (k := 1) W #[.int .i64 x0] 3 [x0] _ 1 rfl rfl rfl (fun _ _ => rfl) (by simp)).2, fun e => (by cases e), fun e => (by cases e), fun e => (by cases e)⟩⟩)
    · simp only [List.getElem?_cons_succ, List.getElem?_cons_zero, Option.some.injEq] at hc
      subst hc
      first
        | exact absurd (show false = true from hwt) (by decide)
        | (skip
           have hrw := (hΦ 3 rfl ⟨⟨3, .data⟩, by simp, rfl, rfl⟩).2.1 rfl
           refine Oper.gives_fn (xs := [.const (.int .i64 0), .const (.int .i64 7), .tmp 10]) rfl rfl rfl (enters_of Tryz.func56 (by kernel_rfl) rfl) ?_ rfl
           refine (sheet_in_any 0 7 (ν 3) [x0] W hrw).mono ?_
           rintro e W' ⟨rfl, h3⟩
           exact ⟨_, rfl, h3, ⟨fun u hu => (by cases hu; rw [HB0.out]), fun e => (by cases e), fun e => (by cases e), fun e => (by cases e), fun e => (by cases e)⟩⟩)
    · simp only [List.getElem?_cons_succ, List.getElem?_cons_zero, Option.some.injEq] at hc
      subst hc
      first
        | exact absurd (show false = true from hwt) (by decide)
        | (skip
           exact .inr ⟨.slice (some ⟨W.heap.size, 0, none⟩) 1 1, W.alloc (.cells #[.int .i64 x1] 3), by kernel_rfl, exq, ⟨fun u h => (by cases h), fun e => (by cases e), fun _ _ => (row_lit (enc := fun x : Int => [.int .i64 x]) (k := 1) W #[.int .i64 x1] 3 [x1] _ 1 rfl rfl rfl (fun _ _ => rfl) (by simp)).2, fun e => (by cases e), fun e => (by cases e)⟩⟩)
    · simp only [List.getElem?_cons_succ, List.getElem?_cons_zero, Option.some.injEq] at hc
      subst hc
      first
        | exact absurd (show false = true from hwt) (by decide)
        | (skip
           have hrw := (hΦ 9 rfl ⟨⟨9, .data⟩, by simp, rfl, rfl⟩).2.2.1 rfl rfl
           refine Oper.gives_fn (xs := [.const (.int .i64 0), .const (.int .i64 11), .tmp 16]) rfl rfl rfl (enters_of Tryz.func56 (by kernel_rfl) rfl) ?_ rfl
           refine (sheet_in_any 0 11 (ν 9) [x1] W hrw).mono ?_
           rintro e W' ⟨rfl, h3⟩
           exact ⟨_, rfl, h3, ⟨fun u hu => (by cases hu; rw [HB1.out]), fun e => (by cases e), fun e => (by cases e), fun e => (by cases e), fun e => (by cases e)⟩⟩)
    · simp only [List.getElem?_cons_succ, List.getElem?_cons_zero, Option.some.injEq] at hc
      subst hc
      first
        | exact absurd (show false = true from hwt) (by decide)
        | (skip
           exact .inr ⟨.slice (some ⟨W.heap.size, 0, none⟩) 2 2, W.alloc (.cells #[.int .i64 x2, .int .i64 x3] 3), by kernel_rfl, exq, ⟨fun u h => (by cases h), fun e => (by cases e), fun e => (by cases e), fun _ _ => (row_lit (enc := fun x : Int => [.int .i64 x]) (k := 1) W #[.int .i64 x2, .int .i64 x3] 3 [x2, x3] _ 2 rfl rfl rfl (fun _ _ => rfl) (by simp)).2, fun e => (by cases e)⟩⟩)
    · simp only [List.getElem?_cons_succ, List.getElem?_cons_zero, Option.some.injEq] at hc
      subst hc
      first
        | exact absurd (show false = true from hwt) (by decide)
        | (skip
           have hrw := (hΦ 19 rfl ⟨⟨19, .data⟩, by simp, rfl, rfl⟩).2.2.2.1 rfl rfl
           refine Oper.gives_fn (xs := [.const (.int .i64 0), .const (.int .i64 2800), .tmp 26]) rfl rfl rfl (enters_of Tryz.func56 (by kernel_rfl) rfl) ?_ rfl
           refine (sheet_in_any 0 2800 (ν 19) [x2, x3] W hrw).mono ?_
           rintro e W' ⟨rfl, h3⟩
           exact ⟨_, rfl, h3, ⟨fun u hu => (by cases hu; rw [HB2.out]), fun e => (by cases e), fun e => (by cases e), fun e => (by cases e), fun e => (by cases e)⟩⟩)
    · simp only [List.getElem?_cons_succ, List.getElem?_cons_zero, Option.some.injEq] at hc
      subst hc
      first
        | exact absurd (show false = true from hwt) (by decide)
        | (skip
           exact .inr ⟨.slice (some ⟨W.heap.size, 0, none⟩) 1 1, W.alloc (.cells #[.int .i64 x4] 3), by kernel_rfl, exq, ⟨fun u h => (by cases h), fun e => (by cases e), fun e => (by cases e), fun e => (by cases e), fun _ _ => (row_lit (enc := fun x : Int => [.int .i64 x]) (k := 1) W #[.int .i64 x4] 3 [x4] _ 1 rfl rfl rfl (fun _ _ => rfl) (by simp)).2⟩⟩)
    · simp only [List.getElem?_cons_succ, List.getElem?_cons_zero, Option.some.injEq] at hc
      subst hc
      first
        | exact absurd (show false = true from hwt) (by decide)
        | (skip
           have hrw := (hΦ 35 rfl ⟨⟨35, .data⟩, by simp, rfl, rfl⟩).2.2.2.2 rfl rfl
           refine Oper.gives_fn (xs := [.const (.int .i64 0), .const (.int .i64 1), .tmp 42]) rfl rfl rfl (enters_of Tryz.func56 (by kernel_rfl) rfl) ?_ rfl
           refine (sheet_in_any 0 1 (ν 35) [x4] W hrw).mono ?_
           rintro e W' ⟨rfl, h3⟩
           exact ⟨_, rfl, h3, ⟨fun u hu => (by cases hu; rw [HB4.out]), fun e => (by cases e), fun e => (by cases e), fun e => (by cases e), fun e => (by cases e)⟩⟩)
    · simp only [List.getElem?_cons_succ, List.getElem?_cons_zero, Option.some.injEq] at hc
      subst hc
      first
        | exact absurd (show false = true from hwt) (by decide)
        | (skip
           refine Oper.gives_fn rfl rfl rfl (enters_of Tryz.func61 (by kernel_rfl) rfl) ?_ rfl
           refine (HRI.out W hwW (by first | rfl | trivial) (by first | rfl | trivial)).mono ?_
           rintro e W' ⟨rfl, h3⟩
           exact ⟨_, rfl, h3, ⟨fun u hu => (by cases hu; rfl), fun e => (by cases e), fun e => (by cases e), fun e => (by cases e), fun e => (by cases e)⟩⟩)
  case tail =>
    have hwW : w.Exts W := World.Exts.trans exq hE
    simp only [List.drop_succ_cons, List.drop_zero]
    clear hΦ hkn
    go_wp2_with fail
    go_ret
    exact ⟨rfl, hwW⟩
end Go.Proofs.YtcickafaomfbmaaGreatDoor
