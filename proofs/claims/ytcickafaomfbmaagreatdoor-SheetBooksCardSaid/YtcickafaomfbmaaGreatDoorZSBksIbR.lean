/-
  Several texts in one: see the heads of its parts.
-/

import Derived.Test.YtcickafaomfbmaaGreatDoorZSBksBs
import Derived.Test.YtcickafaomfbmaaGreatDoorRows
import Derived.KernelRfl
import Derived.Test.YtcickafaomfbmaaGreatDoorZSBksGaI
import Derived.Test.YtcickafaomfbmaaGreatDoorZSBksSa
/-
  From the form's readings to this work's words: the types of layer 4.
-/
namespace Go.Proofs.YtcickafaomfbmaaGreatDoor
open Go.RowKit Kr

section
variable {H : Type} {enc : TypeId × Value → H} {w : World} {base : Nat} {spare : Nat → Bool} {held : Bool}

theorem cells_int : (Tryz.prog).cellsOf 3 = 1 := by kernel_rfl
theorem cells_bool : (Tryz.prog).cellsOf 4 = 1 := by kernel_rfl
theorem cells_Span : (Tryz.prog).cellsOf 28 = 2 := by kernel_rfl
theorem cells_SlInt : (Tryz.prog).cellsOf 45 = 1 := by kernel_rfl
theorem reads_Span : ReadsAs enc Tryz.prog w base spare held 28 (fun t : Span => [.int .i64 t.lo, .int .i64 t.hi]) (fun _ => True) := fun fuel cs x h => by
  have hl := struct_len Tryz.underlying28 h cells_Span
  obtain ⟨a, ea, _⟩ := field_reads Tryz.underlying28 h 0 _ rfl cells_int (readsAs_int Tryz.underlying3)
  obtain ⟨b, eb, _⟩ := field_reads Tryz.underlying28 h 1 _ rfl cells_int (readsAs_int Tryz.underlying3)
  match cs, hl with
  | [c0, c1], _ =>
    simp at ea eb
    subst ea eb
    exact ⟨⟨a, b⟩, rfl, trivial⟩
theorem reads_Ints : ReadsAs enc Tryz.prog w base spare held 45 (fun p : Value × List Int => [p.1]) (fun p => IsRow (fun x : Int => [.int .i64 x]) 1 w p.1 p.2) := fun fuel cs x h => by
  obtain ⟨p, e, hp, _⟩ := readsAs_slice Tryz.underlying45 cells_int (by decide) (fun _ => rfl) (readsAs_int Tryz.underlying3) fuel cs x h
  exact ⟨p, e, hp⟩
end
end Go.Proofs.YtcickafaomfbmaaGreatDoor

/-
  Covers as they lie in memory; walks of the small functions of packages ice and track and of their references.
-/
namespace Go.Proofs.YtcickafaomfbmaaGreatDoor
open Go.RowKit Kr
set_option linter.unusedSimpArgs false
set_option linter.unusedVariables false

/-- The slices of a cover. -/
structure CoverV where
  t : Value
  b : Value
  h : Value
structure CoverAt (w : World) (c : Kr.Cover) (v : CoverV) : Prop where
  tr : IsRow (fun s : Kr.Stretch => [.int .i64 s.id, .int .i64 s.long.lo, .int .i64 s.long.hi, .int .i64 s.fall.lo, .int .i64 s.fall.hi, .int .i64 s.radius.lo, .int .i64 s.radius.hi, .int .u8 s.side, .int .i64 s.wall]) 9 w v.t c.track
  bd : IsRow (fun b : Kr.Bed => [.int .i64 b.thick.lo, .int .i64 b.thick.hi, .int .i64 b.sun]) 3 w v.b c.beds
  hr : IsRow (fun h : Kr.Hour => [.int .i64 h.melt.lo, .int .i64 h.melt.hi, .int .i64 h.runs, .int .i64 h.crew, .bool h.cold]) 5 w v.h c.hours
theorem CoverAt.mono {w w' : World} {c : Kr.Cover} {v : CoverV} (h : CoverAt w c v) (hE : w.Exts w') : CoverAt w' c v := ⟨h.tr.mono hE, h.bd.mono hE, h.hr.mono hE⟩
/-- Lists of numbers lie in memory. -/
structure ListsAt (w : World) (v : Value) (ps : List (List Int × Value)) : Prop where
  row : IsRow (fun x : List Int × Value => [x.2]) 1 w v ps
  mem : ∀ x ∈ ps, IsRow (fun x : Int => [.int .i64 x]) 1 w x.2 x.1
theorem ListsAt.mono {w w' : World} {v : Value} {ps : List (List Int × Value)} (h : ListsAt w v ps) (hE : w.Exts w') : ListsAt w' v ps := ⟨h.row.mono hE, fun x hx => (h.mem x hx).mono hE⟩

set_option maxHeartbeats 400000 in
theorem r01_within_any (n lo hi : Int) (w : World) : Calls Tryz.prog 102 #[.int .i64 n, .int .i64 lo, .int .i64 hi] w fun e w' => e = .returned (.bool (inb lo hi n)) ∧ w.Exts w' := by
  rcases Int.lt_or_le n lo with h | h
  · have e : inb lo hi n = false := by unfold inb; simp; omega
    rw [e]
    go_enter Tryz.func102, Tryz.ntmps102
    go_wp2
    go_ret
    exact ⟨rfl, exq⟩
  · have e : inb lo hi n = decide (n ≤ hi) := by unfold inb; simp; omega
    rw [e]
    go_enter Tryz.func102, Tryz.ntmps102
    go_wp2
    go_ret
    exact ⟨rfl, exq⟩
set_option maxHeartbeats 400000 in
theorem r02_within_any (n lo hi : Int) (w : World) : Calls Tryz.prog 27 #[.int .i64 n, .int .i64 lo, .int .i64 hi] w fun e w' => e = .returned (.bool (inb lo hi n)) ∧ w.Exts w' := by
  rcases Int.lt_or_le n lo with h | h
  · have e : inb lo hi n = false := by unfold inb; simp; omega
    rw [e]
    go_enter Tryz.func27, Tryz.ntmps27
    go_wp2
    go_ret
    exact ⟨rfl, exq⟩
  · have e : inb lo hi n = decide (n ≤ hi) := by unfold inb; simp; omega
    rw [e]
    go_enter Tryz.func27, Tryz.ntmps27
    go_wp2
    go_ret
    exact ⟨rfl, exq⟩

set_option maxHeartbeats 400000 in
theorem r02_spanned_any (s : Span) (lo hi : Int) (w : World) : Calls Tryz.prog 52 #[.agg #[.int .i64 s.lo, .int .i64 s.hi], .int .i64 lo, .int .i64 hi] w fun e w' => e = .returned (.bool (ordered s lo hi)) ∧ w.Exts w' := by
  by_cases h1 : lo ≤ s.lo <;> by_cases h2 : s.lo ≤ s.hi
  all_goals
    go_enter Tryz.func52, Tryz.ntmps52
    go_wp2
    go_ret
    exact ⟨congrArg Ending.returned (congrArg Value.bool (by unfold ordered; rw [Bool.eq_iff_iff]; simp; omega)), exq⟩

set_option maxHeartbeats 400000 in
theorem r01_span_any (s : Span) (lo hi : Int) (w : World) : Calls Tryz.prog 103 #[.agg #[.int .i64 s.lo, .int .i64 s.hi], .int .i64 lo, .int .i64 hi] w fun e w' => e = .returned (.bool (ordered s lo hi)) ∧ w.Exts w' := by
  cases hb : inb lo s.hi s.lo
  all_goals
    have HB := Lib.hid hb
    clear hb
    go_enter Tryz.func103, Tryz.ntmps103
    go_wp2_with (go_at_call 102; refine (r01_within_any _ _ _ _).mono ?_; rintro e w' ⟨rfl, X2, rfl⟩; rw [HB.out])
    go_ret
    have hb := HB.out
    exact ⟨congrArg Ending.returned (congrArg Value.bool (by simp [inb] at hb; unfold ordered; rw [Bool.eq_iff_iff]; simp; omega)), exq⟩

theorem r01_Great_any (t : List Kr.Stretch) (v : Value) (w : World) (h : IsRow (fun s : Kr.Stretch => [.int .i64 s.id, .int .i64 s.long.lo, .int .i64 s.long.hi, .int .i64 s.fall.lo, .int .i64 s.fall.hi, .int .i64 s.radius.lo, .int .i64 s.radius.hi, .int .u8 s.side, .int .i64 s.wall]) 9 w v t) : Calls Tryz.prog 22 #[.agg #[v]] w fun e w' => e = .returned (.bool (decide (20 < (t.length : Int)))) ∧ w.Exts w' := by
  obtain ⟨q, c, rfl⟩ := h.len
  clear h
  go_enter Tryz.func22, Tryz.ntmps22
  go_wp2_with fail
  go_ret
  exact ⟨rfl, exq⟩

theorem ice_in_1_any (n lo hi : Int) (b1 b2 : Nat) (w : World) (h1 : w.cell? ⟨b1, 0, none⟩ = some (.int .i64 lo)) (h2 : w.cell? ⟨b2, 0, none⟩ = some (.int .i64 hi)) :
    Calls Tryz.prog 83 #[.int .i64 n, .pointer (some ⟨b1, 0, none⟩), .pointer (some ⟨b2, 0, none⟩)] w fun e w' => e = .returned (.bool (!inb lo hi n)) ∧ w.Exts w' := by
  by_cases h : n < lo
  all_goals
    go_enter Tryz.func83, Tryz.ntmps83
    go_wp2
    go_ret
    exact ⟨congrArg Ending.returned (congrArg Value.bool (by unfold inb; rw [Bool.eq_iff_iff]; simp; omega)), exq⟩
set_option maxHeartbeats 400000 in
theorem ice_in_any (lo hi : Int) (v : Value) (xs : List Int) (w : World) (hrow : IsRow (fun x : Int => [.int .i64 x]) 1 w v xs) :
    Calls Tryz.prog 38 #[.int .i64 lo, .int .i64 hi, v] w fun e w' => e = .returned (.bool (inAll lo hi xs)) ∧ w.Exts w' := by
  have HR := Lib.hid hrow
  clear hrow
  go_enter Tryz.func38, Tryz.ntmps38
  go_wp2_with (go_at_call 82; refine (ContainsFunc_int_any xs (fun n => !inb lo hi n) _ _ v _ ((HR.out.alloc _).alloc _) (enters_of Tryz.func83 (by kernel_rfl) rfl) (answers2 fun x _ W hW => ice_in_1_any x lo hi _ _ W (hW.cell (by simp)) (hW.cell (by simp)))).mono ?_; rintro e w' ⟨rfl, X2, rfl⟩)
  go_ret
  exact ⟨by rw [inAll_any]; rfl, exq⟩
theorem track_in_1_any (n lo hi : Int) (b1 b2 : Nat) (w : World) (h1 : w.cell? ⟨b1, 0, none⟩ = some (.int .i64 lo)) (h2 : w.cell? ⟨b2, 0, none⟩ = some (.int .i64 hi)) :
    Calls Tryz.prog 209 #[.int .i64 n, .pointer (some ⟨b1, 0, none⟩), .pointer (some ⟨b2, 0, none⟩)] w fun e w' => e = .returned (.bool (!inb lo hi n)) ∧ w.Exts w' := by
  by_cases h : n < lo
  all_goals
    go_enter Tryz.func209, Tryz.ntmps209
    go_wp2
    go_ret
    exact ⟨congrArg Ending.returned (congrArg Value.bool (by unfold inb; rw [Bool.eq_iff_iff]; simp; omega)), exq⟩
set_option maxHeartbeats 400000 in
theorem track_in_any (lo hi : Int) (v : Value) (xs : List Int) (w : World) (hrow : IsRow (fun x : Int => [.int .i64 x]) 1 w v xs) :
    Calls Tryz.prog 190 #[.int .i64 lo, .int .i64 hi, v] w fun e w' => e = .returned (.bool (inAll lo hi xs)) ∧ w.Exts w' := by
  have HR := Lib.hid hrow
  clear hrow
  go_enter Tryz.func190, Tryz.ntmps190
  go_wp2_with (go_at_call 82; refine (ContainsFunc_int_any xs (fun n => !inb lo hi n) _ _ v _ ((HR.out.alloc _).alloc _) (enters_of Tryz.func209 (by kernel_rfl) rfl) (answers2 fun x _ W hW => track_in_1_any x lo hi _ _ W (hW.cell (by simp)) (hW.cell (by simp)))).mono ?_; rintro e w' ⟨rfl, X2, rfl⟩)
  go_ret
  exact ⟨by rw [inAll_any]; rfl, exq⟩
set_option maxHeartbeats 400000 in
theorem ice_ordered_any (s : Span) (lo hi : Int) (w : World) :
    Calls Tryz.prog 151 #[.agg #[.int .i64 s.lo, .int .i64 s.hi], .int .i64 lo, .int .i64 hi] w fun e w' => e = .returned (.bool (ordered s lo hi)) ∧ w.Exts w' := by
  cases hb : inAll lo hi [s.lo, s.hi]
  all_goals
    have HB := Lib.hid hb
    clear hb
    go_enter Tryz.func151, Tryz.ntmps151
    go_wp2_with (go_at_call 38; refine (ice_in_any lo hi _ [s.lo, s.hi] _ (row_int2 _ _ _ _ (by simp))).mono ?_; rintro e w' ⟨rfl, X2, rfl⟩; rw [HB.out])
    go_ret
    have hb := HB.out
    exact ⟨congrArg Ending.returned (congrArg Value.bool (by simp [inAll, inb] at hb; unfold ordered; rw [Bool.eq_iff_iff]; simp; omega)), exq⟩
set_option maxHeartbeats 400000 in
theorem track_known_any (s : Span) (lo hi : Int) (w : World) :
    Calls Tryz.prog 191 #[.agg #[.int .i64 s.lo, .int .i64 s.hi], .int .i64 lo, .int .i64 hi] w fun e w' => e = .returned (.bool (ordered s lo hi)) ∧ w.Exts w' := by
  cases hb : inAll lo hi [s.lo, s.hi]
  all_goals
    have HB := Lib.hid hb
    clear hb
    go_enter Tryz.func191, Tryz.ntmps191
    go_wp2_with (go_at_call 190; refine (track_in_any lo hi _ [s.lo, s.hi] _ (row_int2 _ _ _ _ (by simp))).mono ?_; rintro e w' ⟨rfl, X2, rfl⟩; rw [HB.out])
    go_ret
    have hb := HB.out
    exact ⟨congrArg Ending.returned (congrArg Value.bool (by simp [inAll, inb] at hb; unfold ordered; rw [Bool.eq_iff_iff]; simp; omega)), exq⟩

set_option maxHeartbeats 400000 in
theorem IndexFunc_Bed_any (xs : List Kr.Bed) (p : Kr.Bed → Bool) (g : Nat) (cb : Array Value) (v : Value) (w : World) (hrow : IsRow (fun t : Kr.Bed => [.int .i64 t.thick.lo, .int .i64 t.thick.hi, .int .i64 t.sun]) 3 w v xs)
    (eg : ∀ args w, (callFunc g args).run Tryz.prog w = .ok (.enter g args) w) (hf : Answers Tryz.prog g cb (fun t => .agg #[.int .i64 t.thick.lo, .int .i64 t.thick.hi, .int .i64 t.sun]) w p xs) :
    Calls Tryz.prog 192 #[v, .func (.func g) #[] cb] w fun e w' => e = .returned (.int .i64 (firstAt p xs)) ∧ w.Exts w' := by
  obtain ⟨q, b, o, cap, rfl, hm, hq, hc⟩ := hrow.ex
  have HC := Lib.hid hc
  have HQ := Lib.hid hq
  have HF := Lib.hid hf
  clear hc hq hf hrow
  go_enter Tryz.func192, Tryz.ntmps192
  go_wp2_with fail
  go_loopw [5, 8] (fun _ i wr => ∃ k : Nat, k ≤ xs.length ∧ i = .int .i64 k ∧ Hid (∀ y ∈ xs.take k, p y = false) ∧ w.Exts wr) (fun _ i _ => xs.length - (intOf i).toNat)
  case atStart => exact ⟨0, Nat.zero_le _, rfl, Lib.hid (fun y hy => by simp at hy), World.Exts.refl _⟩
  case round =>
    obtain ⟨k, hk, rfl, HA, X, rfl⟩ := hrel
    by_cases hlt : k < xs.length
    · obtain ⟨rfl, hl⟩ := HQ.out (by omega)
      obtain ⟨x, hx⟩ := some_of_lt hlt
      have hcs := HC.out k x hx
      have c0 := hcs 0 _ rfl
      have c1 := hcs 1 _ rfl
      have c2 := hcs 2 _ rfl
      simp only [Nat.add_zero] at c0 c1 c2
      have hcall := HF.out x (List.mem_of_getElem? hx) _ ⟨X, rfl⟩
      have HX := Lib.hid hx
      clear hx HQ HC HF hcs
      cases hp : p x with
      | true =>
        rw [hp] at hcall
        have HP := Lib.hid hp
        clear hp
        go_wp2_with (go_at_fn g; refine hcall.mono ?_; rintro e w' ⟨rfl, X2, rfl⟩)
        go_ret
        exact ⟨by rw [firstAt_hit HX.out HP.out HA.out]; rfl, exq⟩
      | false =>
        rw [hp] at hcall
        have HP := Lib.hid hp
        clear hp
        go_wp2_with (go_at_fn g; refine hcall.mono ?_; rintro e w' ⟨rfl, X2, rfl⟩)
        go_roundw
        case rel => exact ⟨k + 1, by omega, by go_num, Lib.hid (by rw [take_snoc HX.out]; intro y hy; rcases List.mem_append.1 hy with h | h; exact HA.out y h; rw [List.mem_singleton.1 h]; exact HP.out), exq⟩
        case measure => simp [intOf]; omega
    · have hkn : k = xs.length := by omega
      have hA := HA.out
      rw [hkn, List.take_length] at hA
      have HA' := Lib.hid hA
      clear hA hkn
      go_wp2_with fail
      go_ret
      exact ⟨by rw [firstAt_miss HA'.out]; rfl, exq⟩
set_option maxHeartbeats 400000 in
theorem ContainsFunc_Bed_any (xs : List Kr.Bed) (p : Kr.Bed → Bool) (g : Nat) (cb : Array Value) (v : Value) (w : World) (hrow : IsRow (fun t : Kr.Bed => [.int .i64 t.thick.lo, .int .i64 t.thick.hi, .int .i64 t.sun]) 3 w v xs)
    (eg : ∀ args w, (callFunc g args).run Tryz.prog w = .ok (.enter g args) w) (hf : Answers Tryz.prog g cb (fun t => .agg #[.int .i64 t.thick.lo, .int .i64 t.thick.hi, .int .i64 t.sun]) w p xs) :
    Calls Tryz.prog 153 #[v, .func (.func g) #[] cb] w fun e w' => e = .returned (.bool (xs.any p)) ∧ w.Exts w' := by
  have HF := Lib.hid hf
  clear hf
  go_enter Tryz.func153, Tryz.ntmps153
  go_wp2_with (go_at_call 192; refine (IndexFunc_Bed_any xs p g cb v _ hrow eg HF.out).mono ?_; rintro e w' ⟨rfl, X2, rfl⟩)
  go_ret
  exact ⟨by rw [← firstAt_nonneg]; rfl, exq⟩
set_option maxHeartbeats 400000 in
theorem IndexFunc_Hour_any (xs : List Kr.Hour) (p : Kr.Hour → Bool) (g : Nat) (cb : Array Value) (v : Value) (w : World) (hrow : IsRow (fun t : Kr.Hour => [.int .i64 t.melt.lo, .int .i64 t.melt.hi, .int .i64 t.runs, .int .i64 t.crew, .bool t.cold]) 5 w v xs)
    (eg : ∀ args w, (callFunc g args).run Tryz.prog w = .ok (.enter g args) w) (hf : Answers Tryz.prog g cb (fun t => .agg #[.int .i64 t.melt.lo, .int .i64 t.melt.hi, .int .i64 t.runs, .int .i64 t.crew, .bool t.cold]) w p xs) :
    Calls Tryz.prog 193 #[v, .func (.func g) #[] cb] w fun e w' => e = .returned (.int .i64 (firstAt p xs)) ∧ w.Exts w' := by
  obtain ⟨q, b, o, cap, rfl, hm, hq, hc⟩ := hrow.ex
  have HC := Lib.hid hc
  have HQ := Lib.hid hq
  have HF := Lib.hid hf
  clear hc hq hf hrow
  go_enter Tryz.func193, Tryz.ntmps193
  go_wp2_with fail
  go_loopw [5, 8] (fun _ i wr => ∃ k : Nat, k ≤ xs.length ∧ i = .int .i64 k ∧ Hid (∀ y ∈ xs.take k, p y = false) ∧ w.Exts wr) (fun _ i _ => xs.length - (intOf i).toNat)
  case atStart => exact ⟨0, Nat.zero_le _, rfl, Lib.hid (fun y hy => by simp at hy), World.Exts.refl _⟩
  case round =>
    obtain ⟨k, hk, rfl, HA, X, rfl⟩ := hrel
    by_cases hlt : k < xs.length
    · obtain ⟨rfl, hl⟩ := HQ.out (by omega)
      obtain ⟨x, hx⟩ := some_of_lt hlt
      have hcs := HC.out k x hx
      have c0 := hcs 0 _ rfl
      have c1 := hcs 1 _ rfl
      have c2 := hcs 2 _ rfl
      have c3 := hcs 3 _ rfl
      have c4 := hcs 4 _ rfl
      simp only [Nat.add_zero] at c0 c1 c2 c3 c4
      have hcall := HF.out x (List.mem_of_getElem? hx) _ ⟨X, rfl⟩
      have HX := Lib.hid hx
      clear hx HQ HC HF hcs
      cases hp : p x with
      | true =>
        rw [hp] at hcall
        have HP := Lib.hid hp
        clear hp
        go_wp2_with (go_at_fn g; refine hcall.mono ?_; rintro e w' ⟨rfl, X2, rfl⟩)
        go_ret
        exact ⟨by rw [firstAt_hit HX.out HP.out HA.out]; rfl, exq⟩
      | false =>
        rw [hp] at hcall
        have HP := Lib.hid hp
        clear hp
        go_wp2_with (go_at_fn g; refine hcall.mono ?_; rintro e w' ⟨rfl, X2, rfl⟩)
        go_roundw
        case rel => exact ⟨k + 1, by omega, by go_num, Lib.hid (by rw [take_snoc HX.out]; intro y hy; rcases List.mem_append.1 hy with h | h; exact HA.out y h; rw [List.mem_singleton.1 h]; exact HP.out), exq⟩
        case measure => simp [intOf]; omega
    · have hkn : k = xs.length := by omega
      have hA := HA.out
      rw [hkn, List.take_length] at hA
      have HA' := Lib.hid hA
      clear hA hkn
      go_wp2_with fail
      go_ret
      exact ⟨by rw [firstAt_miss HA'.out]; rfl, exq⟩
set_option maxHeartbeats 400000 in
theorem ContainsFunc_Hour_any (xs : List Kr.Hour) (p : Kr.Hour → Bool) (g : Nat) (cb : Array Value) (v : Value) (w : World) (hrow : IsRow (fun t : Kr.Hour => [.int .i64 t.melt.lo, .int .i64 t.melt.hi, .int .i64 t.runs, .int .i64 t.crew, .bool t.cold]) 5 w v xs)
    (eg : ∀ args w, (callFunc g args).run Tryz.prog w = .ok (.enter g args) w) (hf : Answers Tryz.prog g cb (fun t => .agg #[.int .i64 t.melt.lo, .int .i64 t.melt.hi, .int .i64 t.runs, .int .i64 t.crew, .bool t.cold]) w p xs) :
    Calls Tryz.prog 154 #[v, .func (.func g) #[] cb] w fun e w' => e = .returned (.bool (xs.any p)) ∧ w.Exts w' := by
  have HF := Lib.hid hf
  clear hf
  go_enter Tryz.func154, Tryz.ntmps154
  go_wp2_with (go_at_call 193; refine (IndexFunc_Hour_any xs p g cb v _ hrow eg HF.out).mono ?_; rintro e w' ⟨rfl, X2, rfl⟩)
  go_ret
  exact ⟨by rw [← firstAt_nonneg]; rfl, exq⟩
end Go.Proofs.YtcickafaomfbmaaGreatDoor

/-
  From the form's readings to this work's words: covers, lists of lists.
-/
namespace Go.Proofs.YtcickafaomfbmaaGreatDoor
open Go.RowKit Kr
set_option linter.unusedVariables false
set_option linter.unusedSimpArgs false

section
variable {H : Type} {enc : TypeId × Value → H} {w : World} {base : Nat} {spare : Nat → Bool} {held : Bool}

theorem cells_u8i : (Tryz.prog).cellsOf 5 = 1 := by kernel_rfl
theorem cells_Stretch : (Tryz.prog).cellsOf 169 = 9 := by kernel_rfl
theorem cells_Bed : (Tryz.prog).cellsOf 134 = 3 := by kernel_rfl
theorem cells_Hour : (Tryz.prog).cellsOf 75 = 5 := by kernel_rfl
theorem cells_Track : (Tryz.prog).cellsOf 24 = 1 := by kernel_rfl
theorem cells_SlStretch : (Tryz.prog).cellsOf 22 = 1 := by kernel_rfl
theorem cells_SlBed : (Tryz.prog).cellsOf 25 = 1 := by kernel_rfl
theorem cells_SlHour : (Tryz.prog).cellsOf 26 = 1 := by kernel_rfl
theorem readsAs_u8i : ReadsAs enc Tryz.prog w base spare held 5 (fun n : Int => [.int .u8 n]) (fun n => 0 ≤ n ∧ n ≤ 255) := fun _ _ _ h => by
  obtain ⟨n, h1, _, h2⟩ := DataW.trod_int Tryz.underlying5 h
  exact ⟨n, h1, by simp [Lit.wf, IntKind.has] at h2; exact h2⟩
set_option maxHeartbeats 1000000 in
theorem reads_Stretch : ReadsAs enc Tryz.prog w base spare held 169 (fun s : Kr.Stretch => [.int .i64 s.id, .int .i64 s.long.lo, .int .i64 s.long.hi, .int .i64 s.fall.lo, .int .i64 s.fall.hi, .int .i64 s.radius.lo, .int .i64 s.radius.hi, .int .u8 s.side, .int .i64 s.wall]) (fun s => 0 ≤ s.side ∧ s.side ≤ 255) := fun fuel cs x h => by
  have hl := struct_len Tryz.underlying169 h cells_Stretch
  obtain ⟨a, ea, _⟩ := field_reads Tryz.underlying169 h 0 _ rfl cells_int (readsAs_int Tryz.underlying3)
  obtain ⟨b, eb, _⟩ := field_reads Tryz.underlying169 h 1 _ rfl cells_Span reads_Span
  obtain ⟨c, ec, _⟩ := field_reads Tryz.underlying169 h 2 _ rfl cells_Span reads_Span
  obtain ⟨d, ed, _⟩ := field_reads Tryz.underlying169 h 3 _ rfl cells_Span reads_Span
  obtain ⟨s, es, hs⟩ := field_reads Tryz.underlying169 h 4 _ rfl cells_u8i readsAs_u8i
  obtain ⟨f, ef, _⟩ := field_reads Tryz.underlying169 h 5 _ rfl cells_int (readsAs_int Tryz.underlying3)
  match cs, hl with
  | [c0, c1, c2, c3, c4, c5, c6, c7, c8], _ =>
    simp at ea eb ec ed es ef
    obtain ⟨eb1, eb2⟩ := eb
    obtain ⟨ec1, ec2⟩ := ec
    obtain ⟨ed1, ed2⟩ := ed
    subst ea eb1 eb2 ec1 ec2 ed1 ed2 es ef
    exact ⟨⟨a, b, c, d, s, f⟩, rfl, hs⟩
theorem reads_Bed : ReadsAs enc Tryz.prog w base spare held 134 (fun b : Kr.Bed => [.int .i64 b.thick.lo, .int .i64 b.thick.hi, .int .i64 b.sun]) (fun _ => True) := fun fuel cs x h => by
  have hl := struct_len Tryz.underlying134 h cells_Bed
  obtain ⟨b, eb, _⟩ := field_reads Tryz.underlying134 h 0 _ rfl cells_Span reads_Span
  obtain ⟨a, ea, _⟩ := field_reads Tryz.underlying134 h 1 _ rfl cells_int (readsAs_int Tryz.underlying3)
  match cs, hl with
  | [c0, c1, c2], _ =>
    simp at ea eb
    obtain ⟨eb1, eb2⟩ := eb
    subst ea eb1 eb2
    exact ⟨⟨b, a⟩, rfl, trivial⟩
theorem reads_Hour : ReadsAs enc Tryz.prog w base spare held 75 (fun h : Kr.Hour => [.int .i64 h.melt.lo, .int .i64 h.melt.hi, .int .i64 h.runs, .int .i64 h.crew, .bool h.cold]) (fun _ => True) := fun fuel cs x h => by
  have hl := struct_len Tryz.underlying75 h cells_Hour
  obtain ⟨b, eb, _⟩ := field_reads Tryz.underlying75 h 0 _ rfl cells_Span reads_Span
  obtain ⟨a, ea, _⟩ := field_reads Tryz.underlying75 h 1 _ rfl cells_int (readsAs_int Tryz.underlying3)
  obtain ⟨c, ec, _⟩ := field_reads Tryz.underlying75 h 2 _ rfl cells_int (readsAs_int Tryz.underlying3)
  obtain ⟨d, ed, _⟩ := field_reads Tryz.underlying75 h 3 _ rfl cells_bool (readsAs_bool Tryz.underlying4)
  match cs, hl with
  | [c0, c1, c2, c3, c4], _ =>
    simp at ea eb ec ed
    obtain ⟨eb1, eb2⟩ := eb
    subst ea eb1 eb2 ec ed
    exact ⟨⟨b, a, c, d⟩, rfl, trivial⟩
theorem reads_Track : ReadsAs enc Tryz.prog w base spare held 24 (fun p : Value × List Kr.Stretch => [p.1]) (fun p => IsRow (fun s : Kr.Stretch => [.int .i64 s.id, .int .i64 s.long.lo, .int .i64 s.long.hi, .int .i64 s.fall.lo, .int .i64 s.fall.hi, .int .i64 s.radius.lo, .int .i64 s.radius.hi, .int .u8 s.side, .int .i64 s.wall]) 9 w p.1 p.2 ∧ ∀ s ∈ p.2, 0 ≤ s.side ∧ s.side ≤ 255) := fun fuel cs x h => by
  have hl := struct_len Tryz.underlying24 h cells_Track
  obtain ⟨p, ep, h1, h2⟩ := field_reads Tryz.underlying24 h 0 _ rfl cells_SlStretch (readsAs_slice Tryz.underlying22 cells_Stretch (by decide) (fun _ => rfl) reads_Stretch)
  match cs, hl with
  | [c0], _ =>
    simp at ep
    subst ep
    exact ⟨p, rfl, h1, h2⟩
set_option maxHeartbeats 1000000 in
theorem reads_Cover : ReadsAs enc Tryz.prog w base spare held 30 (fun p : Kr.Cover × CoverV => [p.2.t, p.2.b, p.2.h, .int .i64 p.1.wear.lo, .int .i64 p.1.wear.hi, .int .i64 p.1.layer.lo, .int .i64 p.1.layer.hi, .int .i64 p.1.rate, .int .i64 p.1.limit, .int .i64 p.1.base])
    (fun p => CoverAt w p.1 p.2 ∧ ∀ s ∈ p.1.track, 0 ≤ s.side ∧ s.side ≤ 255) := fun fuel cs x h => by
  have hl := struct_len Tryz.underlying30 h (show (Tryz.prog).cellsOf 30 = 10 by kernel_rfl)
  obtain ⟨a, ea, ha, ha2⟩ := field_reads Tryz.underlying30 h 0 _ rfl cells_Track reads_Track
  obtain ⟨b, eb, hb, _⟩ := field_reads Tryz.underlying30 h 1 _ rfl cells_SlBed (readsAs_slice Tryz.underlying25 cells_Bed (by decide) (fun _ => rfl) reads_Bed)
  obtain ⟨c, ec, hc, _⟩ := field_reads Tryz.underlying30 h 2 _ rfl cells_SlHour (readsAs_slice Tryz.underlying26 cells_Hour (by decide) (fun _ => rfl) reads_Hour)
  obtain ⟨d, ed, _⟩ := field_reads Tryz.underlying30 h 3 _ rfl cells_Span reads_Span
  obtain ⟨f, ef, _⟩ := field_reads Tryz.underlying30 h 4 _ rfl cells_Span reads_Span
  obtain ⟨g, eg, _⟩ := field_reads Tryz.underlying30 h 5 _ rfl cells_int (readsAs_int Tryz.underlying3)
  obtain ⟨i, ei, _⟩ := field_reads Tryz.underlying30 h 6 _ rfl cells_int (readsAs_int Tryz.underlying3)
  obtain ⟨j, ej, _⟩ := field_reads Tryz.underlying30 h 7 _ rfl cells_int (readsAs_int Tryz.underlying3)
  match cs, hl with
  | [c0, c1, c2, c3, c4, c5, c6, c7, c8, c9], _ =>
    simp at ea eb ec ed ef eg ei ej
    obtain ⟨ed1, ed2⟩ := ed
    obtain ⟨ef1, ef2⟩ := ef
    subst ea eb ec ed1 ed2 ef1 ef2 eg ei ej
    exact ⟨(⟨a.2, b.2, c.2, d, f, g, i, j⟩, ⟨a.1, b.1, c.1⟩), rfl, ⟨ha, hb, hc⟩, ha2⟩
theorem reads_Pairs : ReadsAs enc Tryz.prog w base spare held 45 (fun p : List Int × Value => [p.2]) (fun p => IsRow (fun x : Int => [.int .i64 x]) 1 w p.2 p.1) := fun fuel cs x h => by
  obtain ⟨p, e, hp⟩ := reads_Ints fuel cs x h
  exact ⟨(p.2, p.1), e, hp⟩
theorem reads_Lists : ReadsAs enc Tryz.prog w base spare held 31 (fun p : Value × List (List Int × Value) => [p.1]) (fun p => ListsAt w p.1 p.2) := fun fuel cs x h => by
  obtain ⟨p, e, hp, hp2⟩ := readsAs_slice Tryz.underlying31 cells_SlInt (by decide) (fun _ => rfl) reads_Pairs fuel cs x h
  exact ⟨p, e, hp, hp2⟩
end
end Go.Proofs.YtcickafaomfbmaaGreatDoor
