/-
  Several texts in one: see the heads of its parts.
-/
import Derived.Test.YtkgchngaganokaaGreatDoorWtB
import Derived.Test.YtkgchngaganokaaGreatDoorUgW
import Derived.Test.YtkgchngaganokaaGreatDoorYaZ
import Derived.Test.YtkgchngaganokaaGreatDoorYjT
import Derived.Test.YtkgchngaganokaaGreatDoorTm

/-
  Walks: what compares lists of numbers, whatever they hold.
-/
namespace Go.Proofs.YtkgchngaganokaaGreatDoor
open Go.RowKit Kr
set_option linter.unusedSimpArgs false
set_option linter.unusedVariables false

set_option maxHeartbeats 2000000 in
theorem r01_SameInts_dec (xs ys : List Int) (v1 v2 : Value) (w : World) (h1 : IsRow (fun x : Int => [.int .i64 x]) 1 w v1 xs) (h2 : IsRow (fun x : Int => [.int .i64 x]) 1 w v2 ys) :
    Calls Tryz.prog 18 #[v1, v2] w fun e w' => e = .returned (.bool (decide (xs = ys))) ∧ w.Exts w' := by
  obtain ⟨p1, b1, o1, cap1, rfl, hm1, hp1, hc1⟩ := h1.ex
  obtain ⟨p2, b2, o2, cap2, rfl, hm2, hp2, hc2⟩ := h2.ex
  obtain ⟨R, hR⟩ : ∃ r, decide (xs = ys) = r := ⟨_, rfl⟩
  rw [hR]
  have HP1 := Lib.hid hp1
  clear hp1
  have HP2 := Lib.hid hp2
  clear hp2
  have HC1 := Lib.hid hc1
  clear hc1
  have HC2 := Lib.hid hc2
  clear hc2
  clear h1 h2
  by_cases hl : xs.length = ys.length
  rotate_left
  · have hno : R = false := by rw [← hR]; exact decide_eq_false fun e => hl (by rw [e])
    have n1 : ((xs.length : Int) == (ys.length : Int)) = false := beq_eq_false_iff_ne.2 (by omega)
    subst hno
    clear hR hl
    go_enter Tryz.func18, Tryz.ntmps18
    go_wp2_with fail
    go_ret
    exact ⟨rfl, exq⟩
  obtain ⟨n, hn⟩ : ∃ n, xs.length = n := ⟨_, rfl⟩
  have hn2 : ys.length = n := by rw [← hl, hn]
  rw [hn] at HP1 hm1
  rw [hn2] at HP2 hm2
  rw [hn, hn2]
  have HN := Lib.hid hn
  clear hn
  have HN2 := Lib.hid hn2
  clear hn2
  have HR := Lib.hid hR
  clear hR
  clear hl
  go_enter Tryz.func18, Tryz.ntmps18
  go_wp2_with fail
  go_loopw [5] (fun i wr => ∃ t : Nat, t ≤ n ∧ i = .int .i64 t ∧ Hid (xs.take t = ys.take t) ∧ w.Exts wr) (fun i _ => n - (intOf i).toNat)
  case atStart => exact ⟨0, Nat.zero_le _, rfl, Lib.hid rfl, World.Exts.refl _⟩
  case round =>
    obtain ⟨t, ht, rfl, hs, X3, rfl⟩ := hrel
    rcases Nat.lt_or_ge t n with hlt | hge
    · obtain ⟨rfl, _⟩ := HP1.out (by omega)
      obtain ⟨rfl, _⟩ := HP2.out (by omega)
      obtain ⟨x, hx⟩ := some_of_lt (show t < xs.length by rw [HN.out]; exact hlt)
      obtain ⟨y, hy⟩ := some_of_lt (show t < ys.length by rw [HN2.out]; exact hlt)
      have c1 := HC1.out t x hx 0 _ rfl
      have c2 := HC2.out t y hy 0 _ rfl
      simp only [Nat.mul_one, Nat.add_zero] at c1 c2
      have w1 : (t : Int) < (n : Int) := by omega
      by_cases hxy : x = y
      · subst hxy
        have hst : xs.take (t + 1) = ys.take (t + 1) := by rw [take_snoc hx, take_snoc hy, hs.out]
        have HST := Lib.hid hst
        clear hst
        clear hx hy hs HC1 HC2 HP1 HP2
        go_wp2_with fail
        refine wp_region_ext (by kernel_rfl) (by kernel_rfl) ?_
        repeat (go_big_quiet_step (fail))
        refine wpQuiet_nil ?_
        rintro _ ⟨X, rfl⟩
        go_wp2_with fail
        go_roundw
        case rel => exact ⟨t + 1, by omega, by go_num, HST, exq⟩
        case measure => simp [intOf]; omega
      · have hno : R = false := by
          rw [← HR.out]
          refine decide_eq_false fun e => hxy ?_
          rw [e, hy] at hx
          exact (Option.some.inj hx).symm
        have n1 : (x == y) = false := beq_eq_false_iff_ne.2 hxy
        subst hno
        clear hx hy hs HC1 HC2 HP1 HP2 HR
        go_wp2_with fail
        refine wp_region_ext (by kernel_rfl) (by kernel_rfl) ?_
        repeat (go_big_quiet_step (fail))
        refine wpQuiet_nil ?_
        rintro _ ⟨X, rfl⟩
        go_wp2_with fail
        go_ret
        exact ⟨rfl, exq⟩
    · have w1 : ¬ (t : Int) < (n : Int) := by omega
      have hyes : R = true := by
        rw [← HR.out]
        refine decide_eq_true ?_
        have h := hs.out
        rwa [List.take_of_length_le (by rw [HN.out]; exact hge), List.take_of_length_le (by rw [HN2.out]; exact hge)] at h
      subst hyes
      clear hs HR
      go_wp2_with fail
      go_ret
      exact ⟨rfl, exq⟩
set_option maxHeartbeats 2000000 in
theorem Equal_int_dec (xs ys : List Int) (v1 v2 : Value) (w : World) (h1 : IsRow (fun x : Int => [.int .i64 x]) 1 w v1 xs) (h2 : IsRow (fun x : Int => [.int .i64 x]) 1 w v2 ys) :
    Calls Tryz.prog 42 #[v1, v2] w fun e w' => e = .returned (.bool (decide (xs = ys))) ∧ w.Exts w' := by
  obtain ⟨p1, b1, o1, cap1, rfl, hm1, hp1, hc1⟩ := h1.ex
  obtain ⟨p2, b2, o2, cap2, rfl, hm2, hp2, hc2⟩ := h2.ex
  obtain ⟨R, hR⟩ : ∃ r, decide (xs = ys) = r := ⟨_, rfl⟩
  rw [hR]
  have HP1 := Lib.hid hp1
  clear hp1
  have HP2 := Lib.hid hp2
  clear hp2
  have HC1 := Lib.hid hc1
  clear hc1
  have HC2 := Lib.hid hc2
  clear hc2
  clear h1 h2
  by_cases hl : xs.length = ys.length
  rotate_left
  · have hno : R = false := by rw [← hR]; exact decide_eq_false fun e => hl (by rw [e])
    have n1 : ((xs.length : Int) == (ys.length : Int)) = false := beq_eq_false_iff_ne.2 (by omega)
    subst hno
    clear hR hl
    go_enter Tryz.func42, Tryz.ntmps42
    go_wp2_with fail
    go_ret
    exact ⟨rfl, exq⟩
  obtain ⟨n, hn⟩ : ∃ n, xs.length = n := ⟨_, rfl⟩
  have hn2 : ys.length = n := by rw [← hl, hn]
  rw [hn] at HP1 hm1
  rw [hn2] at HP2 hm2
  rw [hn, hn2]
  have HN := Lib.hid hn
  clear hn
  have HN2 := Lib.hid hn2
  clear hn2
  have HR := Lib.hid hR
  clear hR
  clear hl
  go_enter Tryz.func42, Tryz.ntmps42
  go_wp2_with fail
  go_loopw [5, 13] (fun _ i wr => ∃ t : Nat, t ≤ n ∧ i = .int .i64 t ∧ Hid (xs.take t = ys.take t) ∧ w.Exts wr) (fun _ i _ => n - (intOf i).toNat)
  case atStart => exact ⟨0, Nat.zero_le _, rfl, Lib.hid rfl, World.Exts.refl _⟩
  case round =>
    obtain ⟨t, ht, rfl, hs, X3, rfl⟩ := hrel
    rcases Nat.lt_or_ge t n with hlt | hge
    · obtain ⟨rfl, _⟩ := HP1.out (by omega)
      obtain ⟨rfl, _⟩ := HP2.out (by omega)
      obtain ⟨x, hx⟩ := some_of_lt (show t < xs.length by rw [HN.out]; exact hlt)
      obtain ⟨y, hy⟩ := some_of_lt (show t < ys.length by rw [HN2.out]; exact hlt)
      have c1 := HC1.out t x hx 0 _ rfl
      have c2 := HC2.out t y hy 0 _ rfl
      simp only [Nat.mul_one, Nat.add_zero] at c1 c2
      have w1 : (t : Int) < (n : Int) := by omega
      by_cases hxy : x = y
      · subst hxy
        have hst : xs.take (t + 1) = ys.take (t + 1) := by rw [take_snoc hx, take_snoc hy, hs.out]
        have HST := Lib.hid hst
        clear hst
        clear hx hy hs HC1 HC2 HP1 HP2
        go_wp2_with fail
        refine wp_region_ext (by kernel_rfl) (by kernel_rfl) ?_
        repeat (go_big_quiet_step (fail))
        refine wpQuiet_nil ?_
        rintro _ ⟨X, rfl⟩
        go_wp2_with fail
        go_roundw
        case rel => exact ⟨t + 1, by omega, by go_num, HST, exq⟩
        case measure => simp [intOf]; omega
      · have hno : R = false := by
          rw [← HR.out]
          refine decide_eq_false fun e => hxy ?_
          rw [e, hy] at hx
          exact (Option.some.inj hx).symm
        have n1 : (x == y) = false := beq_eq_false_iff_ne.2 hxy
        subst hno
        clear hx hy hs HC1 HC2 HP1 HP2 HR
        go_wp2_with fail
        refine wp_region_ext (by kernel_rfl) (by kernel_rfl) ?_
        repeat (go_big_quiet_step (fail))
        refine wpQuiet_nil ?_
        rintro _ ⟨X, rfl⟩
        go_wp2_with fail
        go_ret
        exact ⟨rfl, exq⟩
    · have w1 : ¬ (t : Int) < (n : Int) := by omega
      have hyes : R = true := by
        rw [← HR.out]
        refine decide_eq_true ?_
        have h := hs.out
        rwa [List.take_of_length_le (by rw [HN.out]; exact hge), List.take_of_length_le (by rw [HN2.out]; exact hge)] at h
      subst hyes
      clear hs HR
      go_wp2_with fail
      go_ret
      exact ⟨rfl, exq⟩
end Go.Proofs.YtkgchngaganokaaGreatDoor

/-
  Sheets: rows that differ. Plain laws.
-/
namespace Kr
open Go
set_option linter.unusedSimpArgs false
set_option linter.unusedVariables false

/-- The rows that are not the same, from row k on. -/
def diffFrom : Nat → List (List Int) → List (List Int) → List Int
  | _, [], [] => []
  | k, _ :: a, [] => (k : Int) :: diffFrom (k + 1) a []
  | k, [], _ :: b => (k : Int) :: diffFrom (k + 1) [] b
  | k, x :: a, y :: b => if x = y then diffFrom (k + 1) a b else (k : Int) :: diffFrom (k + 1) a b
theorem diff_sym : ∀ (a b : List (List Int)) (k : Nat), diffFrom k a b = diffFrom k b a
  | [], [], _ => rfl
  | _ :: a, [], k => by rw [diffFrom, diffFrom, diff_sym a [] (k + 1)]
  | [], _ :: b, k => by rw [diffFrom, diffFrom, diff_sym [] b (k + 1)]
  | x :: a, y :: b, k => by
    rw [diffFrom, diffFrom, diff_sym a b (k + 1)]
    by_cases h : x = y
    · rw [if_pos h, if_pos h.symm]
    · rw [if_neg h, if_neg (Ne.symm h)]
theorem diff_self : ∀ (a : List (List Int)) (k : Nat), diffFrom k a a = []
  | [], _ => by simp [diffFrom]
  | x :: a, k => by rw [diffFrom, if_pos rfl, diff_self a (k + 1)]
theorem diff_nil : ∀ (a b : List (List Int)) (k : Nat), diffFrom k a b = [] ↔ a = b
  | [], [], _ => by simp [diffFrom]
  | x :: a, [], k => by simp [diffFrom]
  | [], y :: b, k => by simp [diffFrom]
  | x :: a, y :: b, k => by
    rw [diffFrom]
    by_cases h : x = y
    · rw [if_pos h, diff_nil a b (k + 1), h]; simp
    · rw [if_neg h]; simp [h]
theorem diff_ge : ∀ (a b : List (List Int)) (k : Nat), ∀ z ∈ diffFrom k a b, (k : Int) ≤ z ∧ z < ((k + max a.length b.length : Nat) : Int)
  | [], [], k, z, h => by simp [diffFrom] at h
  | x :: a, [], k, z, h => by
    rw [diffFrom] at h
    have ih := diff_ge a [] (k + 1)
    simp only [List.length_cons, List.length_nil] at ih ⊢
    rcases List.mem_cons.1 h with rfl | h
    · omega
    · have := ih z h; omega
  | [], y :: b, k, z, h => by
    rw [diffFrom] at h
    have ih := diff_ge [] b (k + 1)
    simp only [List.length_cons, List.length_nil] at ih ⊢
    rcases List.mem_cons.1 h with rfl | h
    · omega
    · have := ih z h; omega
  | x :: a, y :: b, k, z, h => by
    rw [diffFrom] at h
    have ih := diff_ge a b (k + 1)
    simp only [List.length_cons] at ih ⊢
    split at h
    · have := ih z h; omega
    · rcases List.mem_cons.1 h with rfl | h
      · omega
      · have := ih z h; omega
theorem diff_rises : ∀ (a b : List (List Int)) (k : Nat), (diffFrom k a b).Pairwise (· < ·)
  | [], [], k => by simp [diffFrom]
  | x :: a, [], k => by
    rw [diffFrom, List.pairwise_cons]
    exact ⟨fun z hz => by have := (diff_ge a [] (k + 1) z hz).1; omega, diff_rises a [] (k + 1)⟩
  | [], y :: b, k => by
    rw [diffFrom, List.pairwise_cons]
    exact ⟨fun z hz => by have := (diff_ge [] b (k + 1) z hz).1; omega, diff_rises [] b (k + 1)⟩
  | x :: a, y :: b, k => by
    rw [diffFrom]
    split
    · exact diff_rises a b (k + 1)
    · rw [List.pairwise_cons]
      exact ⟨fun z hz => by have := (diff_ge a b (k + 1) z hz).1; omega, diff_rises a b (k + 1)⟩
theorem diff_least : ∀ (a b : List (List Int)) (k : Nat), max a.length b.length - min a.length b.length ≤ (diffFrom k a b).length
  | [], [], k => by simp
  | x :: a, [], k => by
    have ih := diff_least a [] (k + 1)
    rw [diffFrom, List.length_cons]
    simp only [List.length_cons, List.length_nil] at ih ⊢
    omega
  | [], y :: b, k => by
    have ih := diff_least [] b (k + 1)
    rw [diffFrom, List.length_cons]
    simp only [List.length_cons, List.length_nil] at ih ⊢
    omega
  | x :: a, y :: b, k => by
    have ih := diff_least a b (k + 1)
    rw [diffFrom]
    simp only [List.length_cons]
    split
    · omega
    · rw [List.length_cons]; omega
theorem diff_most : ∀ (a b : List (List Int)) (k : Nat), (diffFrom k a b).length ≤ max a.length b.length
  | [], [], k => by simp [diffFrom]
  | x :: a, [], k => by
    have ih := diff_most a [] (k + 1)
    rw [diffFrom, List.length_cons]
    simp only [List.length_cons, List.length_nil] at ih ⊢
    omega
  | [], y :: b, k => by
    have ih := diff_most [] b (k + 1)
    rw [diffFrom, List.length_cons]
    simp only [List.length_cons, List.length_nil] at ih ⊢
    omega
  | x :: a, y :: b, k => by
    have ih := diff_most a b (k + 1)
    rw [diffFrom]
    simp only [List.length_cons]
    split
    · omega
    · rw [List.length_cons]; omega
/-- The first t rows. -/
theorem diff_step : ∀ (a b : List (List Int)) (k t : Nat) (x : List Int), b.length ≤ a.length → a[t]? = some x → diffFrom k (a.take (t + 1)) (b.take (t + 1)) = diffFrom k (a.take t) (b.take t) ++ if b.length ≤ t ∨ b[t]? ≠ some x then [((k + t : Nat) : Int)] else []
  | [], b, k, t, x, _, h => by simp at h
  | z :: a, [], k, 0, x, _, h => by simp [diffFrom]
  | z :: a, y :: b, k, 0, x, _, h => by
    simp at h
    subst h
    by_cases e : z = y
    · subst e; simp [diffFrom]
    · have : y ≠ z := Ne.symm e
      simp [diffFrom, e, this]
  | z :: a, [], k, t + 1, x, hl, h => by
    rw [List.getElem?_cons_succ] at h
    have ih := diff_step a [] (k + 1) t x (by simp) h
    simp only [List.take_nil, List.take_succ_cons, diffFrom] at ih ⊢
    rw [ih]
    simp
    omega
  | z :: a, y :: b, k, t + 1, x, hl, h => by
    rw [List.getElem?_cons_succ] at h
    have ih := diff_step a b (k + 1) t x (by simpa using hl) h
    rw [show k + 1 + t = k + (t + 1) by omega] at ih
    simp only [List.take_succ_cons, diffFrom, List.length_cons, List.getElem?_cons_succ, Nat.add_le_add_iff_right] at ih ⊢
    rw [ih]
    split <;> rfl
/-- One row that is another one. -/
theorem diff_one : ∀ (a : List (List Int)) (k t : Nat) (x : List Int), t < a.length → a[t]? ≠ some x → diffFrom k a (a.set t x) = [((k + t : Nat) : Int)]
  | [], k, t, x, ht, _ => by simp at ht
  | z :: a, k, 0, x, _, h => by
    have h1 : z ≠ x := fun e => h (by rw [e]; rfl)
    rw [List.set_cons_zero, diffFrom, if_neg h1, diff_self]
    simp
  | z :: a, k, t + 1, x, ht, h => by
    rw [List.getElem?_cons_succ] at h
    rw [List.set_cons_succ, diffFrom, if_pos rfl, diff_one a (k + 1) t x (by simpa using ht) h, show k + 1 + t = k + (t + 1) by omega]
/-- Texts are the same where the rows are. -/
theorem write_inj {kd : Int} {a b : List (List Int)} (ha : sheetB kd a = true) (hb : sheetB kd b = true) (hla : (textFrom 1 (linesOf kd a)).length ≤ 1500) (hlb : (textFrom 1 (linesOf kd b)).length ≤ 1500) : textFrom 1 (linesOf kd a) = textFrom 1 (linesOf kd b) ↔ a = b := by
  constructor
  · intro e
    have h1 := (write_read ha hla).1
    have h2 := (write_read hb hlb).1
    rw [e, h2] at h1
    simp only [Prod.mk.injEq, and_true, true_and] at h1
    exact h1.symm
  · intro e; rw [e]
/-- What differs, with its error. -/
def differR (ka kb : Int) (a b : List (List Int)) : List Int × Int := if ka = kb then (diffFrom 0 a b, 0) else ([], 2)
end Kr

/-
  Walks of package sheet: Differ.
-/
namespace Go.Proofs.YtkgchngaganokaaGreatDoor
open Go.RowKit Kr
set_option linter.unusedSimpArgs false
set_option linter.unusedVariables false

/-- A row of rows, row by row. -/
theorem lists_at {w : World} {q : Option Addr} {cap : Nat} {ps : List (List Int × Value)} (h : ListsAt w (.slice q ps.length cap) ps) (k : Nat) (hk : k < ps.length) : ∃ b o, q = some ⟨b, o, none⟩ ∧ ∃ x p cx, (ps.map Prod.fst)[k]? = some x ∧ w.cell? ⟨b, o + k, none⟩ = some (.slice p x.length cx) ∧ IsRow (fun x : Int => [.int .i64 x]) 1 w (.slice p x.length cx) x := by
  obtain ⟨b, o, c, e⟩ := lists_base h (by omega)
  cases e
  obtain ⟨p, b', o', cap', e, hm, hp, hc⟩ := h.row.ex
  cases e
  obtain ⟨e, _⟩ := hp (by omega)
  cases e
  obtain ⟨⟨x, xv⟩, hx⟩ := some_of_lt hk
  have hr := h.mem _ (List.mem_of_getElem? hx)
  obtain ⟨qx, cx, hxv⟩ := hr.len
  have hd := hc k _ hx 0 _ rfl
  dsimp only at hxv hr
  subst hxv
  exact ⟨b, o, rfl, x, qx, cx, by rw [List.getElem?_map, hx]; rfl, by simpa using hd, hr⟩
/-- The rows that differ, as they come. -/
structure DfAt (V W : World) (a b : List (List Int)) (t m : Nat) (v : Value) : Prop where
  len : (diffFrom 0 (a.take t) (b.take t)).length = m
  own : W.ownsRow V.heap.size 3 1 v m ((diffFrom 0 (a.take t) (b.take t)).flatMap fun z => [.int .i64 z])
  exts : V.Exts W
/-- What Differ answers. -/
def DifferIs (w : World) (l : List Int) (x : Int) (e : Ending) (w' : World) : Prop := w.Exts w' ∧ ∃ v, e = .returned (.tuple #[v, .int .i64 x]) ∧ IsRow (fun x : Int => [.int .i64 x]) 1 w' v l

set_option maxRecDepth 4000 in
set_option maxHeartbeats 8000000 in
theorem sheet_Differ_any (ka kb : Int) (ps qs : List (List Int × Value)) (va vb : Value) (w : World) (ha : ListsAt w va ps) (hb : ListsAt w vb qs) (hka : 0 ≤ ka ∧ ka ≤ 255) (hkb : 0 ≤ kb ∧ kb ≤ 255) (sa : sheetB ka (ps.map Prod.fst) = true) (sb : sheetB kb (qs.map Prod.fst) = true) (hna : ps.length ≤ 900) (hnb : qs.length ≤ 900) :
    Calls Tryz.prog 21 #[.agg #[.int .u8 ka, va], .agg #[.int .u8 kb, vb]] w (DifferIs w (differR ka kb (ps.map Prod.fst) (qs.map Prod.fst)).1 (differR ka kb (ps.map Prod.fst) (qs.map Prod.fst)).2) := by
  have hca := fun (W : World) (hE : w.Exts W) => sheet_Check_any ice_fn ka ps va W (ha.mono hE) hna hka
  have hcb := fun (W : World) (hE : w.Exts W) => sheet_Check_any ice_fn kb qs vb W (hb.mono hE) hnb hkb
  unfold checkS at hca hcb
  rw [sa] at hca
  rw [sb] at hcb
  simp only [if_true] at hca hcb
  obtain ⟨q1, c1, e1⟩ := ha.row.len
  obtain ⟨q2, c2, e2⟩ := hb.row.len
  subst e1 e2
  by_cases hk : ka = kb
  rotate_left
  · have hf : differR ka kb (ps.map Prod.fst) (qs.map Prod.fst) = ([], 2) := by unfold differR; rw [if_neg hk]
    rw [hf]
    have n1 : (ka == kb) = false := beq_eq_false_iff_ne.2 hk
    have HCA := Lib.hid hca
    clear hca
    have HCB := Lib.hid hcb
    clear hcb
    clear ha hb hk
    go_enter Tryz.func21, Tryz.ntmps21
    go_wp2_with (first | (go_at_call 27; (with_reducible refine (HCA.out _ ?hx).mono ?_); (case hx => exact exq); rintro e w' ⟨rfl, X1, rfl⟩) | (go_at_call 27; (with_reducible refine (HCB.out _ ?hy).mono ?_); (case hy => exact exq); rintro e w' ⟨rfl, X2, rfl⟩))
    refine bodyPost_ret (v := .tuple #[.slice none 0 0, .int .i64 2]) (by simp [results, Tryz.results21, go_sem]) rfl ?_
    exact ⟨exq, _, rfl, IsRow.nil _⟩
  subst hk
  have hf : differR ka ka (ps.map Prod.fst) (qs.map Prod.fst) = (diffFrom 0 (ps.map Prod.fst) (qs.map Prod.fst), 0) := by unfold differR; rw [if_pos rfl]
  rw [hf]
  obtain ⟨R, hR⟩ : ∃ r, diffFrom 0 (ps.map Prod.fst) (qs.map Prod.fst) = r := ⟨_, rfl⟩
  rw [hR]
  have hA := lists_at ha
  have hB := lists_at hb
  have hla : (ps.map Prod.fst).length = ps.length := List.length_map _
  have hlb : (qs.map Prod.fst).length = qs.length := List.length_map _
  generalize ps.map Prod.fst = a at *
  generalize qs.map Prod.fst = b at *
  generalize ps.length = na at *
  generalize qs.length = nb at *
  have HCA := Lib.hid hca
  clear hca
  have HCB := Lib.hid hcb
  clear hcb
  have HA := Lib.hid hA
  clear hA
  have HB := Lib.hid hB
  clear hB
  have HLA := Lib.hid hla
  clear hla
  have HLB := Lib.hid hlb
  clear hlb
  have HR := Lib.hid hR
  clear hR
  clear ha hb hf sa sb
  rcases Nat.lt_or_ge na nb with hlt | hge
  · have n1 : (na : Int) < (nb : Int) := by omega
    go_enter Tryz.func21, Tryz.ntmps21
    go_wp2_with (first | (go_at_call 27; (with_reducible refine (HCA.out _ ?hu).mono ?_); (case hu => exact exq); rintro e w' ⟨rfl, X1, rfl⟩) | (go_at_call 27; (with_reducible refine (HCB.out _ ?hv).mono ?_); (case hv => exact exq); rintro e w' ⟨rfl, X2, rfl⟩))
    obtain ⟨U, hU⟩ : ∃ W, World.ext (World.ext ((w.alloc (.cells #[.int .u8 ka, .slice q1 na c1] 24)).alloc (.cells #[.int .u8 ka, .slice q2 nb c2] 24)) X1) X2 = W := ⟨_, rfl⟩
    have hEU : ((w.alloc (.cells #[.int .u8 ka, .slice q1 na c1] 24)).alloc (.cells #[.int .u8 ka, .slice q2 nb c2] 24)).Exts U := by rw [← hU]; exact exq
    rw [hU]
    have hwU : w.Exts U := World.Exts.trans exq hEU
    have hb0 := lays_after hEU
    rw [World.size_alloc] at hb0
    obtain ⟨z, hz⟩ : ∃ z, w.heap.size = z := ⟨_, rfl⟩
    rw [hz] at hb0
    rw [hz]
    have hb1 := laysAs_else (laysAs_else hb0 (a := ⟨z, 0, none⟩) (by dsimp only; omega) (.int .u8 ka)) (a := ⟨z, 1, none⟩) (by dsimp only; omega) (.slice q2 nb c2)
    have hb2 := LaysAs.set (i := 0) (cs := [.int .u8 ka, .slice q2 nb c2]) hb1 (.int .u8 ka)
    have hb3 := LaysAs.set (i := 1) hb2 (.slice q1 na c1)
    have hwV : w.Exts ((((U.setCell ⟨z, 0, none⟩ (.int .u8 ka)).setCell ⟨z, 1, none⟩ (.slice q2 nb c2)).setCell ⟨z + 1, 0, none⟩ (.int .u8 ka)).setCell ⟨z + 1, 1, none⟩ (.slice q1 na c1)) := (((hwU.setCell (by dsimp only; omega) _).setCell (by dsimp only; omega) _).setCell (by dsimp only; omega) _).setCell (by dsimp only; omega) _
    have hcb1 := LaysAs.cell hb3 1 _ rfl
    obtain ⟨V, hV⟩ : ∃ W, (((U.setCell ⟨z, 0, none⟩ (.int .u8 ka)).setCell ⟨z, 1, none⟩ (.slice q2 nb c2)).setCell ⟨z + 1, 0, none⟩ (.int .u8 ka)).setCell ⟨z + 1, 1, none⟩ (.slice q1 na c1) = W := ⟨_, rfl⟩
    rw [hV] at hcb1 hwV
    rw [hV]
    have HCB1 := Lib.hid hcb1
    clear hcb1
    have HV := Lib.hid hwV
    clear hwV
    clear hV hEU hU hwU hb0 hb1 hb2 hb3 n1
    go_loopw [6, 7, 8, 34] (fun l _ _ ix wr => ∃ (t m : Nat), t ≤ nb ∧ m ≤ t ∧ ix = .int .i64 t ∧ Hid (DfAt V wr b a t m l)) (fun _ _ _ ix _ => nb - (intOf ix).toNat)
    case atStart => exact ⟨0, 0, Nat.zero_le _, Nat.le_refl _, rfl, Lib.hid ⟨by simp [diffFrom], by simpa [diffFrom] using World.ownsRow_nil _ _ _ _, World.Exts.refl _⟩⟩
    case round =>
      obtain ⟨t, m, ht, hmt, rfl, hS⟩ := hrel
      obtain ⟨qv, cv, hv⟩ := owns_len hS.out.own
      subst hv
      have hE0 := hS.out.exts
      have hcb := hE0.cell (HCB1.out)
      have lcb := Lays.of_cell hcb
      rcases Nat.lt_or_ge t nb with hlt1 | hge1
      · obtain ⟨ba, oa, rfl, x, px, cx, hx, cxa, hxr⟩ := HB.out t hlt1
        have cxa := hE0.cell (HV.out.cell cxa)
        have lxa := Lays.of_cell cxa
        have w1 : (t : Int) < (nb : Int) := by omega
        have hst := diff_step b a 0 t x (by rw [HLB.out, HLA.out]; omega) hx
        rw [Nat.zero_add] at hst
        obtain ⟨lx, hlx⟩ : ∃ k, x.length = k := ⟨_, rfl⟩
        rw [hlx] at cxa hxr
        have hpush : (a.length ≤ t ∨ a[t]? ≠ some x) → ∀ v' w', w'.ownsRow V.heap.size 3 1 v' (m + 1) ((diffFrom 0 (b.take t) (a.take t)).flatMap (fun z => [.int .i64 z]) ++ [.int .i64 (t : Int)]) → (V.Exts w') → DfAt V w' b a (t + 1) (m + 1) v' := fun hc v' w' ho hE => by
          rw [if_pos hc] at hst
          refine ⟨by rw [hst, List.length_append, hS.out.len]; rfl, ?_, hE⟩
          rw [hst, List.flatMap_append]
          exact ho
        have hkeep : ¬ (a.length ≤ t ∨ a[t]? ≠ some x) → ∀ w', wr.Exts w' → DfAt V w' b a (t + 1) m (.slice qv m cv) := fun hc w' hE => by
          rw [if_neg hc, List.append_nil] at hst
          exact ⟨by rw [hst]; exact hS.out.len, by rw [hst]; exact ownsRow_exts hS.out.own hE, hE0.trans hE⟩
        rcases Nat.lt_or_ge t na with hlt2 | hge2
        · obtain ⟨bb, ob, rfl, y, py, cy, hy, cyb, hyr⟩ := HA.out t hlt2
          have cyb := hE0.cell (HV.out.cell cyb)
          have lyb := Lays.of_cell cyb
          have w2 : (t : Int) < (na : Int) := by omega
          have w3 : ¬ (na : Int) ≤ (t : Int) := by omega
          obtain ⟨ly, hly⟩ : ∃ k, y.length = k := ⟨_, rfl⟩
          rw [hly] at cyb hyr
          have heq := fun (W : World) (hE : wr.Exts W) => Equal_int_dec x y _ _ W ((hxr.mono HV.out).mono (hE0.trans hE)) ((hyr.mono HV.out).mono (hE0.trans hE))
          by_cases hxy : x = y
          · have hk := hkeep (fun hc => by
              rcases hc with hc | hc
              · rw [HLA.out] at hc; omega
              · exact hc (by rw [hy, hxy]))
            rw [decide_eq_true hxy] at heq
            have HK1 := Lib.hid hk
            clear hk
            have HEQ := Lib.hid heq
            clear heq
            clear hS hst hpush hkeep hx hy hlx hly hxr hyr hxy hE0
            go_wp2_with (go_at_call 42; refine (HEQ.out _ exq).mono ?_; rintro e w' ⟨rfl, X5, rfl⟩)
            go_roundw
            case rel => exact ⟨t + 1, m, by omega, by omega, by go_num, HK1.out _ exq⟩
            case measure => simp [intOf]; omega
          · have hk := hpush (.inr (by rw [hy]; exact fun e => hxy (Option.some.inj e).symm))
            rw [decide_eq_false hxy] at heq
            have hS2 := hS.out
            have HS2 := Lib.hid hS2
            clear hS2
            have HK1 := Lib.hid hk
            clear hk
            have HEQ := Lib.hid heq
            clear heq
            clear hS hst hpush hkeep hx hy hlx hly hxr hyr hxy hE0
            go_wp2_with (first
              | (go_at_call 42; refine (HEQ.out _ exq).mono ?_; rintro e w' ⟨rfl, X5, rfl⟩)
              | (at_builtin; refine wpList_append1W (.tmp 54) (.tmp 56) elem_int rfl rfl rfl (ownsRow_exts HS2.out.own exq) [.int .i64 (t : Int)] _ (by simp) rfl rfl ?j1Q ?j2Q ?j4Q ?j3Q ?_))
            case j1Q => intro u hu; simp at hu; subst hu; rfl
            case j2Q => omega
            try (case j4Q => decide)
            case j3Q => exact Nat.le_trans HS2.out.exts.size (World.Exts.size (a := wr) exq)
            intro v' w' hown' happ
            have hE6 : V.Exts w' := happ.exts V (World.Exts.trans HS2.out.exts exq) (Nat.le_refl _)
            have hk6 := HK1.out v' w' hown' hE6
            obtain ⟨qw, cw, hv2⟩ := owns_len hown'
            subst hv2
            have HK6 := Lib.hid hk6
            clear hk6
            clear hown' happ hE6
            go_wp2_with fail
            go_roundw
            case rel => exact ⟨t + 1, m + 1, by omega, by omega, by go_num, HK6⟩
            case measure => simp [intOf]; omega
        · have w3 : (na : Int) ≤ (t : Int) := by omega
          have hk := hpush (.inl (by rw [HLA.out]; exact hge2))
          have hS2 := hS.out
          have HS2 := Lib.hid hS2
          clear hS2
          have HK1 := Lib.hid hk
          clear hk
          clear hS hst hpush hkeep hx hlx hxr hE0
          go_wp2_with (at_builtin; refine wpList_append1W (.tmp 54) (.tmp 56) elem_int rfl rfl rfl HS2.out.own [.int .i64 (t : Int)] _ (by simp) rfl rfl ?k1Q ?k2Q ?k4Q ?k3Q ?_)
          case k1Q => intro u hu; simp at hu; subst hu; rfl
          case k2Q => omega
          try (case k4Q => decide)
          case k3Q => exact HS2.out.exts.size
          intro v' w' hown' happ
          have hE6 : V.Exts w' := happ.exts V HS2.out.exts (Nat.le_refl _)
          have hk6 := HK1.out v' w' hown' hE6
          obtain ⟨qw, cw, hv2⟩ := owns_len hown'
          subst hv2
          have HK6 := Lib.hid hk6
          clear hk6
          clear hown' happ hE6
          go_wp2_with fail
          go_roundw
          case rel => exact ⟨t + 1, m + 1, by omega, by omega, by go_num, HK6⟩
          case measure => simp [intOf]; omega
      · obtain rfl : t = nb := by omega
        have w1 : ¬ (t : Int) < (t : Int) := by omega
        have hfin := hS.out
        have HFIN := Lib.hid hfin
        clear hfin
        clear hS
        go_wp2_with fail
        refine bodyPost_ret (v := .tuple #[.slice qv m cv, .int .i64 0]) (by simp [results, Tryz.results21, go_sem]) rfl ?_
        have hR2 : diffFrom 0 (b.take t) (a.take t) = R := by
          rw [List.take_of_length_le (by rw [HLB.out]; exact Nat.le_refl _), List.take_of_length_le (by rw [HLA.out]; omega)]
          rw [diff_sym]; exact HR.out
        refine ⟨HV.out.trans HFIN.out.exts, _, rfl, ?_⟩
        rw [← hR2]
        exact IsRow.of_owns (by rw [HFIN.out.len]; exact HFIN.out.own) fun _ _ => rfl
  · have n1 : ¬ (na : Int) < (nb : Int) := by omega
    go_enter Tryz.func21, Tryz.ntmps21
    go_wp2_with (first | (go_at_call 27; (with_reducible refine (HCA.out _ ?hx).mono ?_); (case hx => exact exq); rintro e w' ⟨rfl, X1, rfl⟩) | (go_at_call 27; (with_reducible refine (HCB.out _ ?hy).mono ?_); (case hy => exact exq); rintro e w' ⟨rfl, X2, rfl⟩))
    rename ¬ na < nb => hx9
    clear hx9 n1
    obtain ⟨V, hV⟩ : ∃ W, World.ext (World.ext ((w.alloc (.cells #[.int .u8 ka, .slice q1 na c1] 24)).alloc (.cells #[.int .u8 ka, .slice q2 nb c2] 24)) X1) X2 = W := ⟨_, rfl⟩
    have hEV : ((w.alloc (.cells #[.int .u8 ka, .slice q1 na c1] 24)).alloc (.cells #[.int .u8 ka, .slice q2 nb c2] 24)).Exts V := by rw [← hV]; exact exq
    rw [hV]
    have hwV : w.Exts V := World.Exts.trans exq hEV
    have hcb1 : V.cell? ⟨w.heap.size + 1, 1, none⟩ = some (.slice q2 nb c2) := by
      have h := LaysAs.cell (lays_after hEV) 1 _ rfl
      rw [World.size_alloc] at h
      exact h
    have HCB1 := Lib.hid hcb1
    clear hcb1
    have HV := Lib.hid hwV
    clear hwV
    clear hV hEV
    go_loopw [6, 7, 8, 34] (fun l _ _ ix wr => ∃ (t m : Nat), t ≤ na ∧ m ≤ t ∧ ix = .int .i64 t ∧ Hid (DfAt V wr a b t m l)) (fun _ _ _ ix _ => na - (intOf ix).toNat)
    case atStart => exact ⟨0, 0, Nat.zero_le _, Nat.le_refl _, rfl, Lib.hid ⟨by simp [diffFrom], by simpa [diffFrom] using World.ownsRow_nil _ _ _ _, World.Exts.refl _⟩⟩
    case round =>
      obtain ⟨t, m, ht, hmt, rfl, hS⟩ := hrel
      obtain ⟨qv, cv, hv⟩ := owns_len hS.out.own
      subst hv
      have hE0 := hS.out.exts
      have hcb := hE0.cell (HCB1.out)
      have lcb := Lays.of_cell hcb
      rcases Nat.lt_or_ge t na with hlt1 | hge1
      · obtain ⟨ba, oa, rfl, x, px, cx, hx, cxa, hxr⟩ := HA.out t hlt1
        have cxa := hE0.cell (HV.out.cell cxa)
        have lxa := Lays.of_cell cxa
        have w1 : (t : Int) < (na : Int) := by omega
        have hst := diff_step a b 0 t x (by rw [HLA.out, HLB.out]; omega) hx
        rw [Nat.zero_add] at hst
        obtain ⟨lx, hlx⟩ : ∃ k, x.length = k := ⟨_, rfl⟩
        rw [hlx] at cxa hxr
        have hpush : (b.length ≤ t ∨ b[t]? ≠ some x) → ∀ v' w', w'.ownsRow V.heap.size 3 1 v' (m + 1) ((diffFrom 0 (a.take t) (b.take t)).flatMap (fun z => [.int .i64 z]) ++ [.int .i64 (t : Int)]) → (V.Exts w') → DfAt V w' a b (t + 1) (m + 1) v' := fun hc v' w' ho hE => by
          rw [if_pos hc] at hst
          refine ⟨by rw [hst, List.length_append, hS.out.len]; rfl, ?_, hE⟩
          rw [hst, List.flatMap_append]
          exact ho
        have hkeep : ¬ (b.length ≤ t ∨ b[t]? ≠ some x) → ∀ w', wr.Exts w' → DfAt V w' a b (t + 1) m (.slice qv m cv) := fun hc w' hE => by
          rw [if_neg hc, List.append_nil] at hst
          exact ⟨by rw [hst]; exact hS.out.len, by rw [hst]; exact ownsRow_exts hS.out.own hE, hE0.trans hE⟩
        rcases Nat.lt_or_ge t nb with hlt2 | hge2
        · obtain ⟨bb, ob, rfl, y, py, cy, hy, cyb, hyr⟩ := HB.out t hlt2
          have cyb := hE0.cell (HV.out.cell cyb)
          have lyb := Lays.of_cell cyb
          have w2 : (t : Int) < (nb : Int) := by omega
          have w3 : ¬ (nb : Int) ≤ (t : Int) := by omega
          obtain ⟨ly, hly⟩ : ∃ k, y.length = k := ⟨_, rfl⟩
          rw [hly] at cyb hyr
          have heq := fun (W : World) (hE : wr.Exts W) => Equal_int_dec x y _ _ W ((hxr.mono HV.out).mono (hE0.trans hE)) ((hyr.mono HV.out).mono (hE0.trans hE))
          by_cases hxy : x = y
          · have hk := hkeep (fun hc => by
              rcases hc with hc | hc
              · rw [HLB.out] at hc; omega
              · exact hc (by rw [hy, hxy]))
            rw [decide_eq_true hxy] at heq
            have HK1 := Lib.hid hk
            clear hk
            have HEQ := Lib.hid heq
            clear heq
            clear hS hst hpush hkeep hx hy hlx hly hxr hyr hxy hE0
            go_wp2_with (go_at_call 42; refine (HEQ.out _ exq).mono ?_; rintro e w' ⟨rfl, X5, rfl⟩)
            go_roundw
            case rel => exact ⟨t + 1, m, by omega, by omega, by go_num, HK1.out _ exq⟩
            case measure => simp [intOf]; omega
          · have hk := hpush (.inr (by rw [hy]; exact fun e => hxy (Option.some.inj e).symm))
            rw [decide_eq_false hxy] at heq
            have hS2 := hS.out
            have HS2 := Lib.hid hS2
            clear hS2
            have HK1 := Lib.hid hk
            clear hk
            have HEQ := Lib.hid heq
            clear heq
            clear hS hst hpush hkeep hx hy hlx hly hxr hyr hxy hE0
            go_wp2_with (first
              | (go_at_call 42; refine (HEQ.out _ exq).mono ?_; rintro e w' ⟨rfl, X5, rfl⟩)
              | (at_builtin; refine wpList_append1W (.tmp 54) (.tmp 56) elem_int rfl rfl rfl (ownsRow_exts HS2.out.own exq) [.int .i64 (t : Int)] _ (by simp) rfl rfl ?j1P ?j2P ?j4P ?j3P ?_))
            case j1P => intro u hu; simp at hu; subst hu; rfl
            case j2P => omega
            try (case j4P => decide)
            case j3P => exact Nat.le_trans HS2.out.exts.size (World.Exts.size (a := wr) exq)
            intro v' w' hown' happ
            have hE6 : V.Exts w' := happ.exts V (World.Exts.trans HS2.out.exts exq) (Nat.le_refl _)
            have hk6 := HK1.out v' w' hown' hE6
            obtain ⟨qw, cw, hv2⟩ := owns_len hown'
            subst hv2
            have HK6 := Lib.hid hk6
            clear hk6
            clear hown' happ hE6
            go_wp2_with fail
            go_roundw
            case rel => exact ⟨t + 1, m + 1, by omega, by omega, by go_num, HK6⟩
            case measure => simp [intOf]; omega
        · have w3 : (nb : Int) ≤ (t : Int) := by omega
          have hk := hpush (.inl (by rw [HLB.out]; exact hge2))
          have hS2 := hS.out
          have HS2 := Lib.hid hS2
          clear hS2
          have HK1 := Lib.hid hk
          clear hk
          clear hS hst hpush hkeep hx hlx hxr hE0
          go_wp2_with (at_builtin; refine wpList_append1W (.tmp 54) (.tmp 56) elem_int rfl rfl rfl HS2.out.own [.int .i64 (t : Int)] _ (by simp) rfl rfl ?k1P ?k2P ?k4P ?k3P ?_)
          case k1P => intro u hu; simp at hu; subst hu; rfl
          case k2P => omega
          try (case k4P => decide)
          case k3P => exact HS2.out.exts.size
          intro v' w' hown' happ
          have hE6 : V.Exts w' := happ.exts V HS2.out.exts (Nat.le_refl _)
          have hk6 := HK1.out v' w' hown' hE6
          obtain ⟨qw, cw, hv2⟩ := owns_len hown'
          subst hv2
          have HK6 := Lib.hid hk6
          clear hk6
          clear hown' happ hE6
          go_wp2_with fail
          go_roundw
          case rel => exact ⟨t + 1, m + 1, by omega, by omega, by go_num, HK6⟩
          case measure => simp [intOf]; omega
      · obtain rfl : t = na := by omega
        have w1 : ¬ (t : Int) < (t : Int) := by omega
        have hfin := hS.out
        have HFIN := Lib.hid hfin
        clear hfin
        clear hS
        go_wp2_with fail
        refine bodyPost_ret (v := .tuple #[.slice qv m cv, .int .i64 0]) (by simp [results, Tryz.results21, go_sem]) rfl ?_
        have hR2 : diffFrom 0 (a.take t) (b.take t) = R := by
          rw [List.take_of_length_le (by rw [HLA.out]; exact Nat.le_refl _), List.take_of_length_le (by rw [HLB.out]; omega)]
          exact HR.out
        refine ⟨HV.out.trans HFIN.out.exts, _, rfl, ?_⟩
        rw [← hR2]
        exact IsRow.of_owns (by rw [HFIN.out.len]; exact HFIN.out.own) fun _ _ => rfl
end Go.Proofs.YtkgchngaganokaaGreatDoor

/-
  Walks of the references: a twin of a sheet lies in new memory, row by row.
-/
namespace Go
open Go.RowKit
/-- 'append([]T{}, y...)' where the empty slice was made at some time before: what comes of it. -/
theorem gives_copy_own {P : Program} {W : World} {α : Type} {enc : α → List Value} {ys : List α} {xv : Value} {o : Oper} {ρ : Operand → Value} {s x : Operand} {t e size bytes : Nat} {z : Value} (E : ElemOf P t e z size bytes)
    (ho : o.op = .call { callee := .builtin .append, args := #[s, x], argTypes := #[t, t] }) {g : Nat}
    (hs : ρ s = .slice (some ⟨g, 0, none⟩) 0 0) (hg : LaysAs W g (.cells #[] e (0, 0))) (hx : ρ x = xv) (hrow : IsRow enc size W xv ys) (henc : ∀ y ∈ ys, (enc y).length = size) (h1 : ∀ y ∈ ys, ∀ u ∈ enc y, u.oneCell' = true) (hn : ys.length ≤ 1000000000) :
    o.gives P ρ W fun v W' => W.Exts W' ∧ IsRow enc size W' v ys ∧ RowT e W' v ∧ W'.ownsRow g e size v ys.length (ys.flatMap enc) := by
  obtain ⟨i0, hi, hz0, hz1, hz2⟩ := info_parts E.inf
  have hE : ∀ v W', (Builtin.append_ #[t, t] o.type #[.slice (some ⟨g, 0, none⟩) 0 0, xv]).run P W = .ok v W' → (execOp ρ o).run P W = .ok (.value v) W' := by
    intro v W' hr
    simp [execOp, ho, resolve, invoke, builtin, hs, hx, hr, Result.andThen]
  have hT : RowT e W (.slice (some ⟨g, 0, none⟩) 0 0) := fun b hb => by
    simp [Value.ownBlock] at hb
    subst hb
    exact ⟨_, _, hg⟩
  have hown : W.ownsRow g e size (.slice (some ⟨g, 0, none⟩) 0 0) 0 [] := ⟨by simp, .inr ⟨g, 0, #[], rfl, Nat.le_refl _, hg, Nat.le_refl _, by unfold maxLen; omega, by simp, by simp⟩⟩
  obtain ⟨p, b, oo, cap, hv, hm, hp, hc⟩ := hrow.ex
  by_cases h0 : 0 < ys.length
  · obtain ⟨rfl, _⟩ := hp h0
    have hcells : ∀ j u, (ys.flatMap enc)[j]? = some u → W.cell? ((⟨b, oo, none⟩ : Addr).add j) = some u := by
      intro q u hq
      obtain ⟨i, y, j, e1, e2, rfl⟩ := flat_get ys henc q u hq
      rw [show (⟨b, oo, none⟩ : Addr).add (i * size + j) = ⟨b, oo + i * size + j, none⟩ from by unfold Addr.add; split <;> simp_all [Nat.add_assoc]]
      exact hc i y e1 j u e2
    have hlen := flat_len ys henc
    have hr := run_append_grow (P := P) W t o.type e i0 z E.und hi hz0 ⟨g, 0, none⟩ 0 0 [] (by simp) (fun j v h => by simp at h) ⟨b, oo, none⟩ ys.length cap (ys.flatMap enc) (by rw [hlen, hz1]) hcells (by omega) (by omega)
      (growslice_fits (by omega) (by
        rw [hz2]
        have h := E.small
        calc (0 + ys.length) * bytes ≤ (0 + ys.length) * 65536 := Nat.mul_le_mul_left _ h
          _ ≤ 140737488355328 := by omega))
    obtain ⟨v', w', hr', ho', hg', _⟩ := run_append_own (P := P) W g t o.type e i0 z size bytes E.und hi hz0 hz1 hz2 E.zs E.pos (.slice (some ⟨g, 0, none⟩) 0 0) 0 [] hown ⟨b, oo, none⟩ ys.length cap (ys.flatMap enc) hlen hcells
      (fun u hu => by obtain ⟨y, hy, hu⟩ := List.mem_flatMap.1 hu; exact h1 y hy u hu) (by unfold maxLen; omega) (by
        have h := E.small
        calc (0 + ys.length) * bytes ≤ (0 + ys.length) * 65536 := Nat.mul_le_mul_left _ h
          _ ≤ 140737488355328 := by omega) (Nat.le_of_lt hg.lt)
    rw [hr] at hr'
    simp only [Result.ok.injEq] at hr'
    obtain ⟨e1, e2⟩ := hr'
    refine .inr ⟨_, _, hE _ _ (by rw [hv]; exact hr), ((World.Exts.refl W).drew).alloc _, ?_, ?_, ?_⟩
    · rw [e1, e2]; exact IsRow.of_owns (by simpa using ho') henc
    · rw [e1, e2]; exact RowT.of_owns ho'
    · rw [e1, e2]; simpa using ho'
  · have : ys = [] := List.eq_nil_of_length_eq_zero (by omega)
    subst this
    refine .inr ⟨.slice (some ⟨g, 0, none⟩) 0 0, W, hE _ _ ?_, World.Exts.refl _, IsRow.of_owns (by simpa using hown) henc, hT, by simpa using hown⟩
    rw [hv]
    cases p with
    | none => exact run_append_none_cap t o.type E hown
    | some ad =>
      have h := run_append_room_cells (P := P) W t o.type e i0 E.und hi g 0 0 0 ad 0 cap [] (by simp) (by simp) (by simp) (Nat.le_refl _) (by simp) (by simp)
      simpa [World.setCells] using h
theorem own_lower {W : World} {base base2 e size n : Nat} {v : Value} {xs : List Value} (h : W.ownsRow base e size v n xs) (hb : base2 ≤ base) : W.ownsRow base2 e size v n xs := by
  refine ⟨h.1, h.2.imp id ?_⟩
  rintro ⟨g, cap, cur, rfl, h1, r⟩
  exact ⟨g, cap, cur, rfl, Nat.le_trans hb h1, r⟩
end Go
namespace Go.Proofs.YtkgchngaganokaaGreatDoor
open Go.RowKit Kr
set_option linter.unusedSimpArgs false
set_option linter.unusedVariables false

/-- The first k rows are new, each behind those before it. -/
def RowsNew (w W : World) (g k : Nat) (L : List (List Int × Value)) : Prop :=
  ∀ i x, i < k → L[i]? = some x → ∃ B, w.heap.size ≤ B ∧ g < B ∧ W.ownsRow B 3 1 x.2 x.1.length (x.1.flatMap fun z => [.int .i64 z]) ∧ ∀ j y, j < i → L[j]? = some y → ∀ b, y.2.ownBlock = some b → b < B
/-- What is known of a twin: its rows are new, and lie apart. -/
structure TwinNew (w W : World) (v : Value) (L : List (List Int × Value)) : Prop where
  rows : ∃ g cg, v = .slice (some ⟨g, 0, none⟩) L.length cg ∧ w.heap.size ≤ g ∧ RowsNew w W g L.length L
theorem RowsNew.step {w W W' : World} {g k : Nat} {L : List (List Int × Value)} {l : List Int} {v v0 : Value} (h : RowsNew w W g k L) (hs : L[k]? = some (l, v0)) (hE : W.Exts W') (hg : g < W.heap.size) (ho : W'.ownsRow W.heap.size 3 1 v l.length (l.flatMap fun z => [.int .i64 z])) (hw : w.heap.size ≤ W.heap.size := by exact World.size_ext_le _ _) : RowsNew w (W'.setCell ⟨g, k, none⟩ v) g (k + 1) (L.set k (l, v)) := by
  have hk := (List.getElem?_eq_some_iff.1 hs).1
  intro i x hi hx
  by_cases e : k = i
  · subst e
    rw [List.getElem?_set_self hk] at hx
    obtain rfl := Option.some.inj hx
    refine ⟨W.heap.size, hw, hg, World.ownsRow.set ho (p := ⟨g, k, none⟩) hg v, fun j y hj hy b hb => ?_⟩
    rw [List.getElem?_set_ne (by omega)] at hy
    obtain ⟨B, _, _, h3, _⟩ := h j y hj hy
    exact (h3.lt b hb).2
  · rw [List.getElem?_set_ne e] at hx
    obtain ⟨B, h1, h2, h3, h4⟩ := h i x (by omega) hx
    refine ⟨B, h1, h2, World.ownsRow.set (ownsRow_exts h3 hE) (p := ⟨g, k, none⟩) h2 v, fun j y hj hy => ?_⟩
    rw [List.getElem?_set_ne (by omega)] at hy
    exact h4 j y hj hy
theorem RowsNew.store {w W : World} {g k : Nat} {L : List (List Int × Value)} (h : RowsNew w W g k L) {p : Addr} (hp : p.block < w.heap.size + 2) (hg : w.heap.size + 1 < g) (u : Value) : RowsNew w (W.setCell p u) g k L := fun i x hi hx => by
  obtain ⟨B, h1, h2, h3, h4⟩ := h i x hi hx
  exact ⟨B, h1, h2, World.ownsRow.set h3 (by omega) u, h4⟩

set_option maxRecDepth 4000 in
set_option maxHeartbeats 4000000 in
theorem r11_Twin_new (kd : Int) (ps : List (List Int × Value)) (pv : Value) (w : World) (h : ListsAt w pv ps) (hn : ps.length ≤ 1000) (hp0 : 0 < ps.length) (hpf : ∀ x ∈ ps, x.1.length ≤ 1000) :
    Calls Tryz.prog 22 #[.agg #[.int .u8 kd, pv]] w fun e w' => ∃ v' ps', e = .returned (.agg #[.int .u8 kd, v']) ∧ ListsAt w' v' ps' ∧ ps'.map Prod.fst = ps.map Prod.fst ∧ w.Exts w' ∧ TwinNew w w' v' ps' := by
  have hrow := h.row
  have hmem := h.mem
  obtain ⟨p, cap, rfl⟩ := hrow.len
  clear h
  have HR := Lib.hid hrow
  clear hrow
  have HM := Lib.hid hmem
  clear hmem
  have HPF := Lib.hid hpf
  clear hpf
  go_enter Tryz.func22, Tryz.ntmps22
  go_wp2_with (at_builtin; refine wpList_append_row (.tmp 4) (.tmp 6) elem_Slint rfl rfl rfl (ownsRow_new _ _ _ (by simp)) rfl (HR.out.mono exq) (fun _ _ => rfl) (fun y hy u hu => by obtain ⟨q, c, e⟩ := (HM.out y hy).len; simp [e] at hu; subst hu; rfl) (by omega) (by simp) ?_)
  intro v1 w1 hown1 happ
  obtain ⟨X1, rfl⟩ := happ.exts ((w.alloc (.cells #[.int .u8 kd, .slice p ps.length cap] 24)).alloc (.cells #[.int .u8 0, .slice none 0 0] 24)) exq (by simp)
  rcases Nat.eq_zero_or_pos ps.length with h0 | h0
  · omega
  · obtain ⟨g, cg, hv1⟩ : ∃ g cg, v1 = .slice (some ⟨g, 0, none⟩) ps.length cg := by
      rcases hown1.2 with ⟨h2, h1⟩ | ⟨g, cg, _, hv, _⟩
      · omega
      · exact ⟨g, cg, by simpa using hv⟩
    subst hv1
    have hgb := hown1.lt g rfl
    have hg2 : w.heap.size + 1 + 1 ≤ g := by have h1 := hgb.1; simpa using h1
    have hblk := BlkAt.of_owns hown1
    have hT1 : RowT 37 _ _ := RowT.of_owns hown1
    have hcg : ps.length ≤ cg ∧ cg ≤ 9223372036854775807 := by
      rcases hown1.2 with ⟨h1, _⟩ | ⟨g', c', cur, hv, _, _, h3, h4, _⟩
      · cases h1
      · cases hv; unfold maxLen at h4; omega
    have hEA : w.Exts (World.ext ((w.alloc (.cells #[.int .u8 kd, .slice p ps.length cap] 24)).alloc (.cells #[.int .u8 0, .slice none 0 0] 24)) X1) := exq
    have hbx : LaysAs (World.ext ((w.alloc (.cells #[.int .u8 kd, .slice p ps.length cap] 24)).alloc (.cells #[.int .u8 0, .slice none 0 0] 24)) X1) w.heap.size (.cells [.int .u8 kd, .slice p ps.length cap].toArray 24 (0, 0)) := (laysAs_size w (.cells #[.int .u8 kd, .slice p ps.length cap] 24) rfl).exts exq
    have hrs : LaysAs (World.ext ((w.alloc (.cells #[.int .u8 kd, .slice p ps.length cap] 24)).alloc (.cells #[.int .u8 0, .slice none 0 0] 24)) X1) (w.heap.size + 1) (.cells [.int .u8 0, .slice none 0 0].toArray 24 (0, 0)) := (laysAs_size (w.alloc (.cells #[.int .u8 kd, .slice p ps.length cap] 24)) (.cells #[.int .u8 0, .slice none 0 0] 24) (by simp)).exts exq
    have hbx1 := LaysAs.set (i := 1) hbx (.slice (some ⟨g, 0, none⟩) ps.length cg)
    have hrs1 := laysAs_else hrs (a := ⟨w.heap.size, 1, none⟩) (by dsimp only; omega) (.slice (some ⟨g, 0, none⟩) ps.length cg)
    have hblk1 := BlkAt.set_other hblk (a := ⟨w.heap.size, 1, none⟩) (by dsimp only; omega) (.slice (some ⟨g, 0, none⟩) ps.length cg)
    have hT2 := RowT.set hT1 ⟨w.heap.size, 1, none⟩ (.slice (some ⟨g, 0, none⟩) ps.length cg)
    have hold : ∀ x ∈ ps, RowOff (fun x : Int => [.int .i64 x]) 1 ((World.ext ((w.alloc (.cells #[.int .u8 kd, .slice p ps.length cap] 24)).alloc (.cells #[.int .u8 0, .slice none 0 0] 24)) X1).setCell ⟨w.heap.size, 1, none⟩ (.slice (some ⟨g, 0, none⟩) ps.length cg)) [g, w.heap.size + 1] x.2 x.1 := fun x hx =>
      ⟨(RowOff.set (a := ⟨w.heap.size, 1, none⟩) (RowOff.old (G := [w.heap.size]) (HM.out x hx) hEA (fun g hg => by rw [List.mem_singleton.1 hg]; exact Nat.le_refl _)) (by simp) _).row, (RowOff.old (G := [g, w.heap.size + 1]) (HM.out x hx) hEA (fun g' hg => by simp at hg; rcases hg with rfl | rfl <;> omega)).off⟩
    haveI : Lays (World.ext _ X1) g := ⟨hgb.2⟩
    have HBK := Lib.hid hblk1
    clear hblk1
    have HT1 := Lib.hid hT2
    clear hT2
    have HBX := Lib.hid hbx1
    clear hbx1
    have HRS := Lib.hid hrs1
    clear hrs1
    have HOLD := Lib.hid hold
    clear hold
    clear hown1 happ hblk hT1 hbx hrs hEA
    go_wp2_with fail
    go_loopw [3] (fun i wr => ∃ (k : Nat) (L : List (List Int × Value)), k ≤ ps.length ∧ i = .int .i64 k ∧ Hid (L.map Prod.fst = ps.map Prod.fst ∧ BlkAt wr g (L.flatMap fun x => [x.2]) ∧ ∀ x ∈ L, RowOff (fun x : Int => [.int .i64 x]) 1 wr [g, w.heap.size + 1] x.2 x.1) ∧ Hid (RowT 37 wr (.slice (some ⟨g, 0, none⟩) ps.length cg)) ∧ Hid (LaysAs wr w.heap.size (.cells [.int .u8 kd, .slice (some ⟨g, 0, none⟩) ps.length cg].toArray 24 (0, 0))) ∧ Hid (LaysAs wr (w.heap.size + 1) (.cells [.int .u8 0, .slice none 0 0].toArray 24 (0, 0))) ∧ Lays wr g ∧ Hid (RowsNew w wr g k L) ∧ w.Exts wr) (fun i _ => ps.length - (intOf i).toNat)
    case atStart => exact ⟨0, ps, Nat.zero_le _, rfl, Lib.hid ⟨rfl, HBK.out, HOLD.out⟩, HT1, HBX, HRS, inferInstance, Lib.hid (fun i x h => absurd h (Nat.not_lt_zero _)), World.Exts.setCell exq (by dsimp only; omega) _⟩
    case round =>
      clear HBK HT1 HBX HRS HOLD
      obtain ⟨k, L, hk, rfl, HL, HLT, HBX, HRS, hl1, HNR, hE⟩ := hrel
      obtain ⟨X, rfl⟩ := hE
      have hLl : L.length = ps.length := by
        have h1 := congrArg List.length HL.out.1
        rwa [List.length_map, List.length_map] at h1
      have bx0 := LaysAs.cell HBX.out 0 _ rfl
      have bx1 := LaysAs.cell HBX.out 1 _ rfl
      have nbx := Lays.of_cell bx0
      have rs0 := LaysAs.cell HRS.out 0 _ rfl
      have nrs := Lays.of_cell rs0
      have rs1 := LaysAs.cell HRS.out 1 _ rfl
      have rf0 := laysAs_frz (i := 0) HRS.out
      have rf1 := laysAs_frz (i := 1) HRS.out
      rcases Nat.lt_or_ge k ps.length with hlt | hge
      · obtain ⟨⟨l, lv⟩, hs⟩ := some_of_lt (xs := L) (k := k) (by omega)
        obtain ⟨hL1, hL2, hL3⟩ := HL.out
        have hll : l.length ≤ 1000 := by
          have h1 := congrArg (fun z => z[k]?) hL1
          rw [List.getElem?_map, List.getElem?_map, hs] at h1
          obtain ⟨y, hy⟩ := some_of_lt (xs := ps) hlt
          rw [hy] at h1
          have h2 := HPF.out y (List.mem_of_getElem? hy)
          have h3 : l = y.1 := by simpa using h1
          rw [h3]
          exact h2
        have hfl : (L.flatMap fun x => [x.2]).length = L.length := by rw [flat_snd, List.length_map]
        have c0 := hL2.cell k lv (by rw [flat_snd, List.getElem?_map, hs]; rfl)
        have r0 := hL2.free k (by rw [hfl, hLl]; exact hlt)
        have hlv := hL3 _ (List.mem_of_getElem? hs)
        dsimp only at hlv
        obtain ⟨q, cq, etv⟩ := hlv.row.len
        subst etv
        clear hL1 hL2 hL3 hfl
        have HS := Lib.hid hs
        clear hs
        have HV := Lib.hid hlv
        clear hlv
        have HLL := Lib.hid hLl
        clear hLl
        go_wp2_with fail
        refine wp_region_calls 11 (fun i => i == 3 || i == 9) (fun c v W => (c = 3 → ∃ q, v = .slice (some ⟨q, 0, none⟩) 0 0 ∧ LaysAs W q (.cells #[] 3 (0, 0)) ∧ (World.ext w X).heap.size ≤ q) ∧ (c = 9 → IsRow (fun x : Int => [.int .i64 x]) 1 W v l ∧ RowT 3 W v ∧ W.ownsRow (World.ext w X).heap.size 3 1 v l.length (l.flatMap fun x => [.int .i64 x]))) (by kernel_rfl) (fun ν => by kernel_rfl) (by kernel_rfl) (by kernel_rfl) (by kernel_rfl) (by kernel_rfl) ?mono ?_
        rotate_left 1
        apply Exists.intro
        refine ⟨fun ν L hL => ?_, fun c oc hc hU ν W hE hΦ => ?_, fun ν W hE hΦ => ?_⟩
        · simp only [modU, cOp, List.mapIdx_cons, List.mapIdx_nil, Nat.zero_add, Nat.reduceAdd, Nat.reduceBEq, Bool.or_false, Bool.false_or, Bool.or_true, Bool.true_or, Bool.or_self, Bool.false_eq_true, if_false, if_true, List.take_succ_cons, List.take_zero]
          repeat (go_big_quiet_step (fail))
          exact wpQuiet_nil hL
        · simp at hU
          rcases hU with rfl | rfl
          · simp only [List.getElem?_cons_succ, List.getElem?_cons_zero, Option.some.injEq] at hc
            subst hc
            refine .inr ⟨.slice (some ⟨W.heap.size, 0, none⟩) 0 0, W.alloc (.cells #[] 3), by kernel_rfl, exq, fun _ => ⟨_, rfl, laysAs_size W _ rfl, hE.size⟩, fun e => (by cases e)⟩
          · simp only [List.getElem?_cons_succ, List.getElem?_cons_zero, Option.some.injEq] at hc
            subst hc
            obtain ⟨q3, hν3, hq3, hq4⟩ := (hΦ 3 rfl ⟨⟨3, .data⟩, by simp, rfl, rfl⟩).1 rfl
            generalize ν 3 = v3 at *
            subst hν3
            have hpW := HV.out.row.mono hE
            refine gives_weaker (gives_copy_own elem_int rfl rfl hq3 rfl hpW (fun _ _ => rfl) (fun _ _ u hu => by simp at hu; subst hu; rfl) (by omega)) ?_
            exact fun v W' ⟨h1, h2, h3, h4⟩ => ⟨h1, fun e => (by cases e), fun _ => ⟨h2, h3, own_lower h4 hq4⟩⟩
        · obtain ⟨h2, h3, h4⟩ := (hΦ 9 (by decide) rfl).2 rfl
          simp only [List.drop_succ_cons, List.drop_zero]
          generalize ν 9 = v9 at h2 h3 h4 ⊢
          generalize ν 3 = v3
          obtain ⟨q2, c2, e2⟩ := h2.len
          subst e2
          obtain ⟨X2, rfl⟩ := hE
          have H2 := Lib.hid h2
          clear h2
          have H3 := Lib.hid h3
          clear h3
          have H4 := Lib.hid h4
          clear h4
          clear hΦ
          go_wp2_with fail
          go_roundw
          case rel =>
            have hg9 : g < (World.ext w X).heap.size := hl1.lt
            obtain ⟨hL1, hL2, hL3⟩ := HL.out
            obtain ⟨gc, gf, hgh⟩ := (HLT.out.exts (W' := (w.ext X).ext X2) ⟨X2, rfl⟩) g rfl
            have hrsE := HRS.out.exts (w' := (w.ext X).ext X2) ⟨X2, rfl⟩
            have hrow2 : RowOff (fun x : Int => [.int .i64 x]) 1 ((w.ext X).ext X2) [g, w.heap.size + 1] (.slice q2 l.length c2) l := ⟨H2.out, .inr fun g' hg' => by
              simp at hg'
              rcases hg' with rfl | rfl
              · exact H3.out.off hgh (by decide)
              · exact H3.out.off hrsE (by decide)⟩
            refine ⟨k + 1, L.set k (l, .slice q2 l.length c2), by omega, by go_num, Lib.hid ⟨(map_set_same (f := Prod.fst) (y := (l, Value.slice q2 l.length c2)) HS.out rfl).trans hL1, ?_, fun x hx => ?_⟩, Lib.hid (RowT.set (HLT.out.exts ⟨X2, rfl⟩) _ _), Lib.hid (laysAs_else (HBX.out.exts ⟨X2, rfl⟩) (by dsimp only; omega) _), Lib.hid (laysAs_else hrsE (by dsimp only; omega) _), inferInstance, Lib.hid (RowsNew.step HNR.out HS.out (World.Exts.ext (World.Exts.refl _) X2) hg9 H4.out), World.Exts.setCell exq (by dsimp only; omega) _⟩
            · rw [← snd_set]
              exact BlkAt.set (hL2.exts ⟨X2, rfl⟩) (by rw [flat_snd, List.length_map, HLL.out]; exact hlt) _
            · rcases List.mem_or_eq_of_mem_set hx with h | rfl
              · exact RowOff.set ((hL3 x h).exts ⟨X2, rfl⟩) (by simp) _
              · exact RowOff.set hrow2 (by simp) _
          case measure => simp [intOf]; omega
        case mono => exact fun c v W W' h hE => ⟨fun e => by obtain ⟨q, h1, h2, h3⟩ := h.1 e; exact ⟨q, h1, h2.exts hE, h3⟩, fun e => ⟨(h.2 e).1.mono hE, (h.2 e).2.1.exts hE, ownsRow_exts (h.2 e).2.2 hE⟩⟩
      · have HLL := Lib.hid hLl
        clear hLl
        have hkn : k = ps.length := by omega
        go_wp2_with fail
        have hR9 := LaysAs.set (cs := [.int .u8 kd, .slice none 0 0]) (i := 1) (LaysAs.set (cs := [.int .u8 0, .slice none 0 0]) (i := 0) HRS.out (.int .u8 kd)) (.slice (some ⟨g, 0, none⟩) ps.length cg)
        have y0 := LaysAs.cell (cs := [.int .u8 kd, .slice (some ⟨g, 0, none⟩) ps.length cg]) hR9 0 _ rfl
        have y1 := LaysAs.cell (cs := [.int .u8 kd, .slice (some ⟨g, 0, none⟩) ps.length cg]) hR9 1 _ rfl
        refine bodyPost_ret (v := .agg #[.int .u8 kd, .slice (some ⟨g, 0, none⟩) ps.length cg]) (by simp [results, Tryz.results22, go_sem, y0, y1]) rfl ?_
        obtain ⟨hL1, hL2, hL3⟩ := HL.out
        refine ⟨_, L, rfl, ⟨?_, fun x hx => ((hL3 x hx).set (a := ⟨w.heap.size + 1, 0, none⟩) (by simp) _ |>.set (a := ⟨w.heap.size + 1, 1, none⟩) (by simp) _).row⟩, hL1, World.Exts.setCell (World.Exts.setCell exq (by dsimp only; omega) _) (by dsimp only; omega) _, ⟨?_⟩⟩
        rw [← HLL.out]
        exact IsRow.of_blk (fun _ => rfl) ((hL2.set_other (a := ⟨w.heap.size + 1, 0, none⟩) (by dsimp only; omega) _).set_other (a := ⟨w.heap.size + 1, 1, none⟩) (by dsimp only; omega) _) inferInstance (by rw [HLL.out]; exact hcg)
        · refine ⟨g, cg, by rw [HLL.out], by omega, ?_⟩
          rw [HLL.out]
          have h9 := HNR.out
          rw [hkn] at h9
          exact (h9.store (p := ⟨w.heap.size + 1, 0, none⟩) (by dsimp only; omega) (by omega) _).store (p := ⟨w.heap.size + 1, 1, none⟩) (by dsimp only; omega) (by omega) _
end Go.Proofs.YtkgchngaganokaaGreatDoor

/-
  Walks of the references: what compares sheets, whatever their rows.
-/
namespace Go.Proofs.YtkgchngaganokaaGreatDoor
open Go.RowKit Kr
set_option linter.unusedSimpArgs false
set_option linter.unusedVariables false

set_option maxRecDepth 4000 in
set_option maxHeartbeats 4000000 in
theorem r11_Same_dec (kd : Int) (xs ys : List (List Int × Value)) (v1 v2 : Value) (w : World) (h1 : ListsAt w v1 xs) (h2 : ListsAt w v2 ys) (hl : ys.length = xs.length) (hn9 : xs.length ≤ 1000) :
    Calls Tryz.prog 24 #[.agg #[.int .u8 kd, v1], .agg #[.int .u8 kd, v2]] w fun e w' => e = .returned (.bool (decide (xs.map Prod.fst = ys.map Prod.fst))) ∧ w.Exts w' := by
  obtain ⟨q1, c1, e1⟩ := h1.row.len
  obtain ⟨q2, c2, e2⟩ := h2.row.len
  subst e1 e2
  have hA := lists_at h1
  have hB := lists_at h2
  have hla : (xs.map Prod.fst).length = xs.length := List.length_map _
  have hlb : (ys.map Prod.fst).length = xs.length := by rw [List.length_map, hl]
  rw [hl]
  rw [hl] at hB
  obtain ⟨R, hR⟩ : ∃ r, decide (xs.map Prod.fst = ys.map Prod.fst) = r := ⟨_, rfl⟩
  rw [hR]
  generalize xs.map Prod.fst = a at *
  generalize ys.map Prod.fst = b at *
  generalize xs.length = n at *
  have HA := Lib.hid hA
  clear hA
  have HB := Lib.hid hB
  clear hB
  have HLA := Lib.hid hla
  clear hla
  have HLB := Lib.hid hlb
  clear hlb
  have HR := Lib.hid hR
  clear hR
  clear h1 h2 hl
  go_enter Tryz.func24, Tryz.ntmps24
  go_wp2_with fail
  go_loopw [5] (fun ix wr => ∃ t : Nat, t ≤ n ∧ ix = .int .i64 t ∧ Hid (a.take t = b.take t) ∧ ((w.alloc (.cells #[.int .u8 kd, .slice q1 n c1] 24)).alloc (.cells #[.int .u8 kd, .slice q2 n c2] 24)).Exts wr) (fun ix _ => n - (intOf ix).toNat)
  case atStart => exact ⟨0, Nat.zero_le _, rfl, Lib.hid rfl, World.Exts.refl _⟩
  case round =>
    obtain ⟨t, ht, rfl, hs, X3, rfl⟩ := hrel
    rcases Nat.lt_or_ge t n with hlt | hge
    · obtain ⟨ba, oa, rfl, x, px, cx, hx, cxa, hxr⟩ := HA.out t hlt
      obtain ⟨bb, ob, rfl, y, py, cy, hy, cyb, hyr⟩ := HB.out t hlt
      have lxa := Lays.of_cell cxa
      have lyb := Lays.of_cell cyb
      have w1 : (t : Int) < (n : Int) := by omega
      have heq := fun (W : World) (hE : w.Exts W) => r01_SameInts_dec x y _ _ W (hxr.mono hE) (hyr.mono hE)
      generalize x.length = lx at *
      generalize y.length = ly at *
      by_cases hxy : x = y
      · rw [decide_eq_true hxy] at heq
        have hst : a.take (t + 1) = b.take (t + 1) := by rw [take_snoc hx, take_snoc hy, hs.out, hxy]
        have HST := Lib.hid hst
        clear hst
        have HEQ := Lib.hid heq
        clear heq
        clear hx hy hxr hyr hxy hs
        go_wp2_with fail
        refine wp_region_ext (by kernel_rfl) (by kernel_rfl) ?_
        repeat (go_big_quiet_step ((go_at_call 18; exact Calls.in_ext (HEQ.out _ exq))))
        refine wpQuiet_nil ?_
        rintro _ ⟨X, rfl⟩
        go_wp2_with fail
        go_roundw
        case rel => exact ⟨t + 1, by omega, by go_num, HST, exq⟩
        case measure => simp [intOf]; omega
      · rw [decide_eq_false hxy] at heq
        have hno : R = false := by
          rw [← HR.out]
          refine decide_eq_false fun e => hxy ?_
          rw [e, hy] at hx
          exact (Option.some.inj hx).symm
        subst hno
        have HEQ := Lib.hid heq
        clear heq
        clear hx hy hxr hyr hxy hs HR
        go_wp2_with fail
        refine wp_region_ext (by kernel_rfl) (by kernel_rfl) ?_
        repeat (go_big_quiet_step ((go_at_call 18; exact Calls.in_ext (HEQ.out _ exq))))
        refine wpQuiet_nil ?_
        rintro _ ⟨X, rfl⟩
        go_wp2_with fail
        go_ret
        exact ⟨rfl, exq⟩
    · have w1 : ¬ (t : Int) < (n : Int) := by omega
      have hyes : R = true := by
        rw [← HR.out]
        refine decide_eq_true ?_
        have h := hs.out
        rwa [List.take_of_length_le (by rw [HLA.out]; exact hge), List.take_of_length_le (by rw [HLB.out]; exact hge)] at h
      subst hyes
      clear hs HR
      go_wp2_with fail
      go_ret
      exact ⟨rfl, exq⟩
end Go.Proofs.YtkgchngaganokaaGreatDoor

/-
  Sheets: a number of a twin's row is another one.
-/
namespace Go.Proofs.YtkgchngaganokaaGreatDoor
open Go.RowKit Kr
set_option linter.unusedSimpArgs false
set_option linter.unusedVariables false

theorem flat_set_ints (x : List Int) (j : Nat) (u : Int) : (x.flatMap fun z => [Value.int .i64 z]).set j (.int .i64 u) = (x.set j u).flatMap fun z => [Value.int .i64 z] := by
  have h : ∀ l : List Int, (l.flatMap fun z => [Value.int .i64 z]) = l.map fun z => Value.int .i64 z := fun l => by induction l with
    | nil => rfl
    | cons a r ih => rw [List.flatMap_cons, ih]; rfl
  rw [h, h, List.map_set]
theorem twin_store {w W : World} {v : Value} {L : List (List Int × Value)} {k j : Nat} {x : List Int × Value} (h : ListsAt W v L) (hn : TwinNew w W v L) (hk : L[k]? = some x) (hj : j < x.1.length) (u : Int) :
    ∃ g cg b c, v = .slice (some ⟨g, 0, none⟩) L.length cg ∧ W.cell? ⟨g, k, none⟩ = some (.slice (some ⟨b, 0, none⟩) x.1.length c) ∧ w.heap.size ≤ b ∧ b < W.heap.size ∧ W.frozen? ⟨b, j, none⟩ = false ∧ W.cell? ⟨b, j, none⟩ = some (.int .i64 (nth x.1 j)) ∧
      ∀ W' : World, W.Exts W' → ListsAt (W'.setCell ⟨b, j, none⟩ (.int .i64 u)) v (L.set k (x.1.set j u, x.2)) := by
  obtain ⟨g, cg, rfl, hg0, hR⟩ := hn.rows
  have hkl := (List.getElem?_eq_some_iff.1 hk).1
  obtain ⟨B, hB1, hB2, hown, hB4⟩ := hR k x hkl hk
  obtain ⟨xl, xv⟩ := x
  dsimp only at hown hj ⊢
  obtain ⟨b, c, cur, hv, hBb, hlay, hnc, hcm⟩ : ∃ b c cur, xv = .slice (some ⟨b, 0, none⟩) xl.length c ∧ B ≤ b ∧ LaysAs W b (.cells cur 3 (0, 0)) ∧ xl.length ≤ c ∧ c ≤ 9223372036854775807 := by
    rcases hown.2 with ⟨_, h0⟩ | ⟨b, c, cur, hv, h1, h2, h3, h4, _⟩
    · omega
    · exact ⟨b, c, cur, hv, h1, h2, h3, by unfold maxLen at h4; omega⟩
  subst hv
  have hblk := BlkAt.of_owns hown
  have hrow := h.mem _ (List.mem_of_getElem? hk)
  dsimp only at hrow
  have hcj := row_nth hrow j hj
  rw [Nat.zero_add] at hcj
  obtain ⟨p, b', o', cap', e, hm, hp, hc⟩ := h.row.ex
  simp only [Value.slice.injEq] at e
  obtain ⟨rfl, _, rfl⟩ := e
  obtain ⟨e2, hlg⟩ := hp (by omega)
  simp only [Option.some.injEq, Addr.mk.injEq] at e2
  obtain ⟨rfl, rfl, _⟩ := e2
  have hck := hc k _ hk 0 _ rfl
  simp only [Nat.mul_one, Nat.add_zero, Nat.zero_add] at hck
  refine ⟨g, cg, b, c, rfl, hck, by omega, hlay.lt, ?_, hcj, ?_⟩
  · unfold World.frozen?
    rw [show W.heap[b]? = _ from hlay]
    rfl
  intro W' hE
  replace h := h.mono hE
  replace hlay := hlay.exts hE
  replace hblk := hblk.exts hE
  replace hR : RowsNew w W' g L.length L := fun i x hi hx => by
    obtain ⟨B, p1, p2, p3, p4⟩ := hR i x hi hx
    exact ⟨B, p1, p2, ownsRow_exts p3 hE, p4⟩
  replace hlg : Lays W' g := ⟨Nat.lt_of_lt_of_le hlg.lt hE.size⟩
  have hT : Turn W' (W'.setCell ⟨b, j, none⟩ (.int .i64 u)) b := (Turn.refl W' b).set hlay.lt j _
  refine ⟨?_, fun y hy => ?_⟩
  · have hrg := hT.row h.row (by intro e; simp [Value.ownBlock] at e; omega)
    obtain ⟨p, b', o', cap', e, hm, hp, hc⟩ := hrg.ex
    refine ⟨p, b', o', cap', by rw [List.length_set]; exact e, by rw [List.length_set]; exact hm, fun h0 => hp (by rwa [List.length_set] at h0), fun i y hy q z hz => ?_⟩
    by_cases ei : k = i
    · subst ei
      rw [List.getElem?_set_self hkl] at hy
      obtain rfl := Option.some.inj hy
      exact hc k _ hk q z hz
    · rw [List.getElem?_set_ne ei] at hy
      exact hc i y hy q z hz
  · obtain ⟨i, hi⟩ := List.getElem?_of_mem hy
    by_cases ei : k = i
    · subst ei
      rw [List.getElem?_set_self hkl] at hi
      obtain rfl := Option.some.inj hi
      dsimp only
      have hb2 := BlkAt.set hblk (p := j) (by rw [flat_len (enc := fun z : Int => [Value.int .i64 z]) (size := 1) xl (fun _ _ => rfl)]; omega) (.int .i64 u)
      rw [flat_set_ints] at hb2
      have h9 := IsRow.of_blk (enc := fun z : Int => [Value.int .i64 z]) (k := 1) (xs := xl.set j u) (c := c) (fun _ => rfl) hb2 ⟨by simpa using hlay.lt⟩ (by rw [List.length_set]; exact ⟨hnc, hcm⟩)
      rw [List.length_set] at h9
      exact h9
    · rw [List.getElem?_set_ne ei] at hi
      refine hT.row (h.mem y (List.mem_of_getElem? hi)) (fun e => ?_)
      rcases Nat.lt_or_ge i k with hik | hik
      · have := hB4 i y hik hi b e
        omega
      · obtain ⟨B', _, _, ho', h4'⟩ := hR i y (List.getElem?_eq_some_iff.1 hi).1 hi
        have h1 := h4' k _ (by omega) hk b rfl
        have h2 := (ho'.lt b e).1
        omega
end Go.Proofs.YtkgchngaganokaaGreatDoor
