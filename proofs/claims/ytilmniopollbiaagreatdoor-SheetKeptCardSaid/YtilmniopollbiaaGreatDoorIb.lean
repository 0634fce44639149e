/-
  Covers as they lie in memory; walks of the small functions of packages ice and track and of their references.
-/
import Derived.Test.YtilmniopollbiaaGreatDoorGaI
import Derived.Test.YtilmniopollbiaaGreatDoorGb
namespace Go.Proofs.YtilmniopollbiaaGreatDoor
open Go.RowKit Kr
set_option linter.unusedSimpArgs false
set_option linter.unusedVariables false

/-- The slices of a cover. -/
structure CoverV where
  t : Value
  b : Value
  h : Value
structure CoverAt (w : World) (c : Kr.Cover) (v : CoverV) : Prop where
  tr : IsRow (fun s : Kr.Stretch => [.int .i64 s.id, .int .i64 s.long.lo, .int .i64 s.long.hi, .int .i64 s.fall.lo, .int .i64 s.fall.hi, .int .i64 s.radius.lo, .int .i64 s.radius.hi, .int .u8 s.side, .int .i64 s.wall]) 9 w v.t c.track
  bd : IsRow (fun b : Kr.Bed => [.int .i64 b.thick.lo, .int .i64 b.thick.hi, .int .i64 b.sun]) 3 w v.b c.beds
  hr : IsRow (fun h : Kr.Hour => [.int .i64 h.melt.lo, .int .i64 h.melt.hi, .int .i64 h.runs, .int .i64 h.crew, .bool h.cold]) 5 w v.h c.hours
theorem CoverAt.mono {w w' : World} {c : Kr.Cover} {v : CoverV} (h : CoverAt w c v) (hE : w.Exts w') : CoverAt w' c v := ⟨h.tr.mono hE, h.bd.mono hE, h.hr.mono hE⟩
/-- Lists of numbers lie in memory. -/
structure ListsAt (w : World) (v : Value) (ps : List (List Int × Value)) : Prop where
  row : IsRow (fun x : List Int × Value => [x.2]) 1 w v ps
  mem : ∀ x ∈ ps, IsRow (fun x : Int => [.int .i64 x]) 1 w x.2 x.1
theorem ListsAt.mono {w w' : World} {v : Value} {ps : List (List Int × Value)} (h : ListsAt w v ps) (hE : w.Exts w') : ListsAt w' v ps := ⟨h.row.mono hE, fun x hx => (h.mem x hx).mono hE⟩

set_option maxHeartbeats 400000 in
theorem r01_within_any (n lo hi : Int) (w : World) : Calls Tryz.prog 188 #[.int .i64 n, .int .i64 lo, .int .i64 hi] w fun e w' => e = .returned (.bool (inb lo hi n)) ∧ w.Exts w' := by
  rcases Int.lt_or_le n lo with h | h
  · have e : inb lo hi n = false := by unfold inb; simp; omega
    rw [e]
    go_enter Tryz.func188, Tryz.ntmps188
    go_wp2
    go_ret
    exact ⟨rfl, exq⟩
  · have e : inb lo hi n = decide (n ≤ hi) := by unfold inb; simp; omega
    rw [e]
    go_enter Tryz.func188, Tryz.ntmps188
    go_wp2
    go_ret
    exact ⟨rfl, exq⟩
set_option maxHeartbeats 400000 in
theorem r02_within_any (n lo hi : Int) (w : World) : Calls Tryz.prog 95 #[.int .i64 n, .int .i64 lo, .int .i64 hi] w fun e w' => e = .returned (.bool (inb lo hi n)) ∧ w.Exts w' := by
  rcases Int.lt_or_le n lo with h | h
  · have e : inb lo hi n = false := by unfold inb; simp; omega
    rw [e]
    go_enter Tryz.func95, Tryz.ntmps95
    go_wp2
    go_ret
    exact ⟨rfl, exq⟩
  · have e : inb lo hi n = decide (n ≤ hi) := by unfold inb; simp; omega
    rw [e]
    go_enter Tryz.func95, Tryz.ntmps95
    go_wp2
    go_ret
    exact ⟨rfl, exq⟩

set_option maxHeartbeats 400000 in
theorem r02_spanned_any (s : Span) (lo hi : Int) (w : World) : Calls Tryz.prog 147 #[.agg #[.int .i64 s.lo, .int .i64 s.hi], .int .i64 lo, .int .i64 hi] w fun e w' => e = .returned (.bool (ordered s lo hi)) ∧ w.Exts w' := by
  by_cases h1 : lo ≤ s.lo <;> by_cases h2 : s.lo ≤ s.hi
  all_goals
    go_enter Tryz.func147, Tryz.ntmps147
    go_wp2
    go_ret
    exact ⟨congrArg Ending.returned (congrArg Value.bool (by unfold ordered; rw [Bool.eq_iff_iff]; simp; omega)), exq⟩

set_option maxHeartbeats 400000 in
theorem r01_span_any (s : Span) (lo hi : Int) (w : World) : Calls Tryz.prog 189 #[.agg #[.int .i64 s.lo, .int .i64 s.hi], .int .i64 lo, .int .i64 hi] w fun e w' => e = .returned (.bool (ordered s lo hi)) ∧ w.Exts w' := by
  cases hb : inb lo s.hi s.lo
  all_goals
    have HB := Lib.hid hb
    clear hb
    go_enter Tryz.func189, Tryz.ntmps189
    go_wp2_with (go_at_call 188; refine (r01_within_any _ _ _ _).mono ?_; rintro e w' ⟨rfl, X2, rfl⟩; rw [HB.out])
    go_ret
    have hb := HB.out
    exact ⟨congrArg Ending.returned (congrArg Value.bool (by simp [inb] at hb; unfold ordered; rw [Bool.eq_iff_iff]; simp; omega)), exq⟩

theorem r01_Great_any (t : List Kr.Stretch) (v : Value) (w : World) (h : IsRow (fun s : Kr.Stretch => [.int .i64 s.id, .int .i64 s.long.lo, .int .i64 s.long.hi, .int .i64 s.fall.lo, .int .i64 s.fall.hi, .int .i64 s.radius.lo, .int .i64 s.radius.hi, .int .u8 s.side, .int .i64 s.wall]) 9 w v t) : Calls Tryz.prog 40 #[.agg #[v]] w fun e w' => e = .returned (.bool (decide (20 < (t.length : Int)))) ∧ w.Exts w' := by
  obtain ⟨q, c, rfl⟩ := h.len
  clear h
  go_enter Tryz.func40, Tryz.ntmps40
  go_wp2_with fail
  go_ret
  exact ⟨rfl, exq⟩

set_option maxHeartbeats 1000000 in
theorem r02_Has_any (l : List Int) (v : Value) (n : Int) (w : World) (hrow : IsRow (fun x : Int => [.int .i64 x]) 1 w v l) (hlen : l.length ≤ 1000000) :
    Calls Tryz.prog 49 #[v, .int .i64 n] w fun e w' => e = .returned (.bool (l.any fun y => y == n)) ∧ w.Exts w' := by
  obtain ⟨p, b, o, cap, rfl, hm, hp, hc⟩ := hrow.ex
  have HP := Lib.hid hp
  clear hp
  have HC := Lib.hid hc
  clear hc
  clear hrow
  go_enter Tryz.func49, Tryz.ntmps49
  go_wp2_with fail
  go_loopw [5] (fun i wr => ∃ k : Nat, k ≤ l.length ∧ i = .int .i64 k ∧ Hid ((l.take k).any (fun y => y == n) = false) ∧ w.Exts wr) (fun i _ => l.length - (intOf i).toNat)
  case atStart => exact ⟨0, Nat.zero_le _, rfl, Lib.hid rfl, exq⟩
  case round =>
    obtain ⟨k, hk, rfl, HU, hE⟩ := hrel
    obtain ⟨X, rfl⟩ := hE
    by_cases hlt : k < l.length
    · obtain ⟨rfl, hl⟩ := HP.out (by omega)
      obtain ⟨x, hx⟩ := some_of_lt hlt
      have hcs := HC.out k x hx 0 _ rfl
      simp only [Nat.mul_one, Nat.add_zero] at hcs
      have hup := any_part (n := n) hx
      rw [HU.out] at hup
      have hall : (x == n) = true → (l.any fun y => y == n) = true := fun h => List.any_eq_true.2 ⟨x, List.mem_of_getElem? hx, h⟩
      cases hq : x == n
      · rw [hq] at hup
        have HUP := Lib.hid hup
        clear hup
        clear hall hx
        go_wp2_with fail
        go_roundw
        case rel => exact ⟨k + 1, by omega, by go_num, Lib.hid HUP.out, exq⟩
        case measure => simp [intOf]; omega
      · have h1 := hall hq
        have H1 := Lib.hid h1
        clear h1
        clear hup hall hx
        go_wp2_with fail
        go_ret
        rw [H1.out]
        exact ⟨rfl, exq⟩
    · have hkn : k = l.length := by omega
      have hU := HU.out
      rw [hkn, List.take_length] at hU
      have HU2 := Lib.hid hU
      clear hU
      clear hkn HU
      go_wp2_with fail
      go_ret
      rw [HU2.out]
      exact ⟨rfl, exq⟩

theorem ice_in_1_any (n lo hi : Int) (b1 b2 : Nat) (w : World) (h1 : w.cell? ⟨b1, 0, none⟩ = some (.int .i64 lo)) (h2 : w.cell? ⟨b2, 0, none⟩ = some (.int .i64 hi)) :
    Calls Tryz.prog 144 #[.int .i64 n, .pointer (some ⟨b1, 0, none⟩), .pointer (some ⟨b2, 0, none⟩)] w fun e w' => e = .returned (.bool (!inb lo hi n)) ∧ w.Exts w' := by
  by_cases h : n < lo
  all_goals
    go_enter Tryz.func144, Tryz.ntmps144
    go_wp2
    go_ret
    exact ⟨congrArg Ending.returned (congrArg Value.bool (by unfold inb; rw [Bool.eq_iff_iff]; simp; omega)), exq⟩
set_option maxHeartbeats 400000 in
theorem ice_in_any (lo hi : Int) (v : Value) (xs : List Int) (w : World) (hrow : IsRow (fun x : Int => [.int .i64 x]) 1 w v xs) :
    Calls Tryz.prog 90 #[.int .i64 lo, .int .i64 hi, v] w fun e w' => e = .returned (.bool (inAll lo hi xs)) ∧ w.Exts w' := by
  have HR := Lib.hid hrow
  clear hrow
  go_enter Tryz.func90, Tryz.ntmps90
  go_wp2_with (go_at_call 109; refine (ContainsFunc_int_any xs (fun n => !inb lo hi n) _ _ v _ ((HR.out.alloc _).alloc _) (enters_of Tryz.func144 (by kernel_rfl) rfl) (answers2 fun x _ W hW => ice_in_1_any x lo hi _ _ W (hW.cell (by simp)) (hW.cell (by simp)))).mono ?_; rintro e w' ⟨rfl, X2, rfl⟩)
  go_ret
  exact ⟨by rw [inAll_any]; rfl, exq⟩
theorem track_in_1_any (n lo hi : Int) (b1 b2 : Nat) (w : World) (h1 : w.cell? ⟨b1, 0, none⟩ = some (.int .i64 lo)) (h2 : w.cell? ⟨b2, 0, none⟩ = some (.int .i64 hi)) :
    Calls Tryz.prog 282 #[.int .i64 n, .pointer (some ⟨b1, 0, none⟩), .pointer (some ⟨b2, 0, none⟩)] w fun e w' => e = .returned (.bool (!inb lo hi n)) ∧ w.Exts w' := by
  by_cases h : n < lo
  all_goals
    go_enter Tryz.func282, Tryz.ntmps282
    go_wp2
    go_ret
    exact ⟨congrArg Ending.returned (congrArg Value.bool (by unfold inb; rw [Bool.eq_iff_iff]; simp; omega)), exq⟩
set_option maxHeartbeats 400000 in
theorem track_in_any (lo hi : Int) (v : Value) (xs : List Int) (w : World) (hrow : IsRow (fun x : Int => [.int .i64 x]) 1 w v xs) :
    Calls Tryz.prog 264 #[.int .i64 lo, .int .i64 hi, v] w fun e w' => e = .returned (.bool (inAll lo hi xs)) ∧ w.Exts w' := by
  have HR := Lib.hid hrow
  clear hrow
  go_enter Tryz.func264, Tryz.ntmps264
  go_wp2_with (go_at_call 109; refine (ContainsFunc_int_any xs (fun n => !inb lo hi n) _ _ v _ ((HR.out.alloc _).alloc _) (enters_of Tryz.func282 (by kernel_rfl) rfl) (answers2 fun x _ W hW => track_in_1_any x lo hi _ _ W (hW.cell (by simp)) (hW.cell (by simp)))).mono ?_; rintro e w' ⟨rfl, X2, rfl⟩)
  go_ret
  exact ⟨by rw [inAll_any]; rfl, exq⟩
set_option maxHeartbeats 400000 in
theorem ice_ordered_any (s : Span) (lo hi : Int) (w : World) :
    Calls Tryz.prog 225 #[.agg #[.int .i64 s.lo, .int .i64 s.hi], .int .i64 lo, .int .i64 hi] w fun e w' => e = .returned (.bool (ordered s lo hi)) ∧ w.Exts w' := by
  cases hb : inAll lo hi [s.lo, s.hi]
  all_goals
    have HB := Lib.hid hb
    clear hb
    go_enter Tryz.func225, Tryz.ntmps225
    go_wp2_with (go_at_call 90; refine (ice_in_any lo hi _ [s.lo, s.hi] _ (row_int2 _ _ _ _ (by simp))).mono ?_; rintro e w' ⟨rfl, X2, rfl⟩; rw [HB.out])
    go_ret
    have hb := HB.out
    exact ⟨congrArg Ending.returned (congrArg Value.bool (by simp [inAll, inb] at hb; unfold ordered; rw [Bool.eq_iff_iff]; simp; omega)), exq⟩
set_option maxHeartbeats 400000 in
theorem track_known_any (s : Span) (lo hi : Int) (w : World) :
    Calls Tryz.prog 265 #[.agg #[.int .i64 s.lo, .int .i64 s.hi], .int .i64 lo, .int .i64 hi] w fun e w' => e = .returned (.bool (ordered s lo hi)) ∧ w.Exts w' := by
  cases hb : inAll lo hi [s.lo, s.hi]
  all_goals
    have HB := Lib.hid hb
    clear hb
    go_enter Tryz.func265, Tryz.ntmps265
    go_wp2_with (go_at_call 264; refine (track_in_any lo hi _ [s.lo, s.hi] _ (row_int2 _ _ _ _ (by simp))).mono ?_; rintro e w' ⟨rfl, X2, rfl⟩; rw [HB.out])
    go_ret
    have hb := HB.out
    exact ⟨congrArg Ending.returned (congrArg Value.bool (by simp [inAll, inb] at hb; unfold ordered; rw [Bool.eq_iff_iff]; simp; omega)), exq⟩

set_option maxHeartbeats 400000 in
theorem IndexFunc_Bed_any (xs : List Kr.Bed) (p : Kr.Bed → Bool) (g : Nat) (cb : Array Value) (v : Value) (w : World) (hrow : IsRow (fun t : Kr.Bed => [.int .i64 t.thick.lo, .int .i64 t.thick.hi, .int .i64 t.sun]) 3 w v xs)
    (eg : ∀ args w, (callFunc g args).run Tryz.prog w = .ok (.enter g args) w) (hf : Answers Tryz.prog g cb (fun t => .agg #[.int .i64 t.thick.lo, .int .i64 t.thick.hi, .int .i64 t.sun]) w p xs) :
    Calls Tryz.prog 266 #[v, .func (.func g) #[] cb] w fun e w' => e = .returned (.int .i64 (firstAt p xs)) ∧ w.Exts w' := by
  obtain ⟨q, b, o, cap, rfl, hm, hq, hc⟩ := hrow.ex
  have HC := Lib.hid hc
  have HQ := Lib.hid hq
  have HF := Lib.hid hf
  clear hc hq hf hrow
  go_enter Tryz.func266, Tryz.ntmps266
  go_wp2_with fail
  go_loopw [5, 8] (fun _ i wr => ∃ k : Nat, k ≤ xs.length ∧ i = .int .i64 k ∧ Hid (∀ y ∈ xs.take k, p y = false) ∧ w.Exts wr) (fun _ i _ => xs.length - (intOf i).toNat)
  case atStart => exact ⟨0, Nat.zero_le _, rfl, Lib.hid (fun y hy => by simp at hy), World.Exts.refl _⟩
  case round =>
    obtain ⟨k, hk, rfl, HA, X, rfl⟩ := hrel
    by_cases hlt : k < xs.length
    · obtain ⟨rfl, hl⟩ := HQ.out (by omega)
      obtain ⟨x, hx⟩ := some_of_lt hlt
      have hcs := HC.out k x hx
      have c0 := hcs 0 _ rfl
      have c1 := hcs 1 _ rfl
      have c2 := hcs 2 _ rfl
      simp only [Nat.add_zero] at c0 c1 c2
      have hcall := HF.out x (List.mem_of_getElem? hx) _ ⟨X, rfl⟩
      have HX := Lib.hid hx
      clear hx HQ HC HF hcs
      cases hp : p x with
      | true =>
        rw [hp] at hcall
        have HP := Lib.hid hp
        clear hp
        go_wp2_with (go_at_fn g; refine hcall.mono ?_; rintro e w' ⟨rfl, X2, rfl⟩)
        go_ret
        exact ⟨by rw [firstAt_hit HX.out HP.out HA.out]; rfl, exq⟩
      | false =>
        rw [hp] at hcall
        have HP := Lib.hid hp
        clear hp
        go_wp2_with (go_at_fn g; refine hcall.mono ?_; rintro e w' ⟨rfl, X2, rfl⟩)
        go_roundw
        case rel => exact ⟨k + 1, by omega, by go_num, Lib.hid (by rw [take_snoc HX.out]; intro y hy; rcases List.mem_append.1 hy with h | h; exact HA.out y h; rw [List.mem_singleton.1 h]; exact HP.out), exq⟩
        case measure => simp [intOf]; omega
    · have hkn : k = xs.length := by omega
      have hA := HA.out
      rw [hkn, List.take_length] at hA
      have HA' := Lib.hid hA
      clear hA hkn
      go_wp2_with fail
      go_ret
      exact ⟨by rw [firstAt_miss HA'.out]; rfl, exq⟩
set_option maxHeartbeats 400000 in
theorem ContainsFunc_Bed_any (xs : List Kr.Bed) (p : Kr.Bed → Bool) (g : Nat) (cb : Array Value) (v : Value) (w : World) (hrow : IsRow (fun t : Kr.Bed => [.int .i64 t.thick.lo, .int .i64 t.thick.hi, .int .i64 t.sun]) 3 w v xs)
    (eg : ∀ args w, (callFunc g args).run Tryz.prog w = .ok (.enter g args) w) (hf : Answers Tryz.prog g cb (fun t => .agg #[.int .i64 t.thick.lo, .int .i64 t.thick.hi, .int .i64 t.sun]) w p xs) :
    Calls Tryz.prog 227 #[v, .func (.func g) #[] cb] w fun e w' => e = .returned (.bool (xs.any p)) ∧ w.Exts w' := by
  have HF := Lib.hid hf
  clear hf
  go_enter Tryz.func227, Tryz.ntmps227
  go_wp2_with (go_at_call 266; refine (IndexFunc_Bed_any xs p g cb v _ hrow eg HF.out).mono ?_; rintro e w' ⟨rfl, X2, rfl⟩)
  go_ret
  exact ⟨by rw [← firstAt_nonneg]; rfl, exq⟩
set_option maxHeartbeats 400000 in
theorem IndexFunc_Hour_any (xs : List Kr.Hour) (p : Kr.Hour → Bool) (g : Nat) (cb : Array Value) (v : Value) (w : World) (hrow : IsRow (fun t : Kr.Hour => [.int .i64 t.melt.lo, .int .i64 t.melt.hi, .int .i64 t.runs, .int .i64 t.crew, .bool t.cold]) 5 w v xs)
    (eg : ∀ args w, (callFunc g args).run Tryz.prog w = .ok (.enter g args) w) (hf : Answers Tryz.prog g cb (fun t => .agg #[.int .i64 t.melt.lo, .int .i64 t.melt.hi, .int .i64 t.runs, .int .i64 t.crew, .bool t.cold]) w p xs) :
    Calls Tryz.prog 267 #[v, .func (.func g) #[] cb] w fun e w' => e = .returned (.int .i64 (firstAt p xs)) ∧ w.Exts w' := by
  obtain ⟨q, b, o, cap, rfl, hm, hq, hc⟩ := hrow.ex
  have HC := Lib.hid hc
  have HQ := Lib.hid hq
  have HF := Lib.hid hf
  clear hc hq hf hrow
  go_enter Tryz.func267, Tryz.ntmps267
  go_wp2_with fail
  go_loopw [5, 8] (fun _ i wr => ∃ k : Nat, k ≤ xs.length ∧ i = .int .i64 k ∧ Hid (∀ y ∈ xs.take k, p y = false) ∧ w.Exts wr) (fun _ i _ => xs.length - (intOf i).toNat)
  case atStart => exact ⟨0, Nat.zero_le _, rfl, Lib.hid (fun y hy => by simp at hy), World.Exts.refl _⟩
  case round =>
    obtain ⟨k, hk, rfl, HA, X, rfl⟩ := hrel
    by_cases hlt : k < xs.length
    · obtain ⟨rfl, hl⟩ := HQ.out (by omega)
      obtain ⟨x, hx⟩ := some_of_lt hlt
      have hcs := HC.out k x hx
      have c0 := hcs 0 _ rfl
      have c1 := hcs 1 _ rfl
      have c2 := hcs 2 _ rfl
      have c3 := hcs 3 _ rfl
      have c4 := hcs 4 _ rfl
      simp only [Nat.add_zero] at c0 c1 c2 c3 c4
      have hcall := HF.out x (List.mem_of_getElem? hx) _ ⟨X, rfl⟩
      have HX := Lib.hid hx
      clear hx HQ HC HF hcs
      cases hp : p x with
      | true =>
        rw [hp] at hcall
        have HP := Lib.hid hp
        clear hp
        go_wp2_with (go_at_fn g; refine hcall.mono ?_; rintro e w' ⟨rfl, X2, rfl⟩)
        go_ret
        exact ⟨by rw [firstAt_hit HX.out HP.out HA.out]; rfl, exq⟩
      | false =>
        rw [hp] at hcall
        have HP := Lib.hid hp
        clear hp
        go_wp2_with (go_at_fn g; refine hcall.mono ?_; rintro e w' ⟨rfl, X2, rfl⟩)
        go_roundw
        case rel => exact ⟨k + 1, by omega, by go_num, Lib.hid (by rw [take_snoc HX.out]; intro y hy; rcases List.mem_append.1 hy with h | h; exact HA.out y h; rw [List.mem_singleton.1 h]; exact HP.out), exq⟩
        case measure => simp [intOf]; omega
    · have hkn : k = xs.length := by omega
      have hA := HA.out
      rw [hkn, List.take_length] at hA
      have HA' := Lib.hid hA
      clear hA hkn
      go_wp2_with fail
      go_ret
      exact ⟨by rw [firstAt_miss HA'.out]; rfl, exq⟩
set_option maxHeartbeats 400000 in
theorem ContainsFunc_Hour_any (xs : List Kr.Hour) (p : Kr.Hour → Bool) (g : Nat) (cb : Array Value) (v : Value) (w : World) (hrow : IsRow (fun t : Kr.Hour => [.int .i64 t.melt.lo, .int .i64 t.melt.hi, .int .i64 t.runs, .int .i64 t.crew, .bool t.cold]) 5 w v xs)
    (eg : ∀ args w, (callFunc g args).run Tryz.prog w = .ok (.enter g args) w) (hf : Answers Tryz.prog g cb (fun t => .agg #[.int .i64 t.melt.lo, .int .i64 t.melt.hi, .int .i64 t.runs, .int .i64 t.crew, .bool t.cold]) w p xs) :
    Calls Tryz.prog 228 #[v, .func (.func g) #[] cb] w fun e w' => e = .returned (.bool (xs.any p)) ∧ w.Exts w' := by
  have HF := Lib.hid hf
  clear hf
  go_enter Tryz.func228, Tryz.ntmps228
  go_wp2_with (go_at_call 267; refine (IndexFunc_Hour_any xs p g cb v _ hrow eg HF.out).mono ?_; rintro e w' ⟨rfl, X2, rfl⟩)
  go_ret
  exact ⟨by rw [← firstAt_nonneg]; rfl, exq⟩
end Go.Proofs.YtilmniopollbiaaGreatDoor
