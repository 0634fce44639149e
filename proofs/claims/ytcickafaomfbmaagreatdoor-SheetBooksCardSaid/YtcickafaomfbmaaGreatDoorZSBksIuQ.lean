/-
  Several texts in one: see the heads of its parts.
-/

import Derived.Test.YtcickafaomfbmaaGreatDoorZSBksIcF
import Derived.Test.YtcickafaomfbmaaGreatDoorZSBksTq
import Derived.Test.YtcickafaomfbmaaGreatDoorZSBksJdk
import Derived.Test.YtcickafaomfbmaaGreatDoorZSBksIgK
import Derived.Test.YtcickafaomfbmaaGreatDoorZSBksIsT
import Derived.Test.YtcickafaomfbmaaGreatDoorZSBksIlO
import Derived.Test.YtcickafaomfbmaaGreatDoorZSBksSoT
import Derived.Test.YtcickafaomfbmaaGreatDoorZSBksTm
/-
  Walks of references: what compares tracks, covers, plans, sheets; whether a cover is great.
-/
namespace Go.Proofs.YtcickafaomfbmaaGreatDoor
open Go.RowKit Kr
set_option linter.unusedSimpArgs false
set_option linter.unusedVariables false

set_option maxHeartbeats 400000 in
theorem r01_SameInts_any (l : List Int) (v1 v2 : Value) (w : World) (h1 : IsRow (fun t : Int => [.int .i64 t]) 1 w v1 l) (h2 : IsRow (fun t : Int => [.int .i64 t]) 1 w v2 l) :
    Calls Tryz.prog 19 #[v1, v2] w fun e w' => e = .returned (.bool true) ∧ w.Exts w' := by
  obtain ⟨p1, b1, o1, cap1, rfl, hm, hp1, hc1⟩ := h1.ex
  obtain ⟨p2, b2, o2, cap2, rfl, hm2, hp2, hc2⟩ := h2.ex
  have HC1 := Lib.hid hc1
  clear hc1
  have HC2 := Lib.hid hc2
  clear hc2
  clear h1 h2
  go_enter Tryz.func19, Tryz.ntmps19
  go_wp2_with fail
  go_loopw [5] (fun i wr => ∃ k : Nat, k ≤ l.length ∧ i = .int .i64 k ∧ w.Exts wr) (fun i _ => l.length - (intOf i).toNat)
  case atStart => exact ⟨0, Nat.zero_le _, rfl, exq⟩
  case round =>
    obtain ⟨k, hk, rfl, X, rfl⟩ := hrel
    by_cases hlt : k < l.length
    · obtain ⟨rfl, hl1⟩ := hp1 (by omega)
      obtain ⟨rfl, hl2⟩ := hp2 (by omega)
      obtain ⟨x, hx⟩ := some_of_lt hlt
      have d1 := HC1.out k x hx
      have d2 := HC2.out k x hx
      have c10 := d1 0 _ rfl
      have c20 := d2 0 _ rfl
      simp only [Nat.add_zero, Nat.mul_one] at c10 c20
      clear hx d1 d2 hp1 hp2
      go_wp2_with fail
      refine wp_region_ext (by kernel_rfl) (by kernel_rfl) ?_
      repeat (go_big_quiet_step (fail))
      refine wpQuiet_nil ?_
      rintro _ ⟨X, rfl⟩
      go_wp2_with fail
      go_roundw
      case rel => exact ⟨k + 1, by omega, by go_num, exq⟩
      case measure => simp [intOf]; omega
    · go_wp2_with fail
      go_ret
      exact ⟨rfl, exq⟩
set_option maxHeartbeats 1000000 in
theorem r11_Same_any (kd : Int) (xs ys : List (List Int × Value)) (v1 v2 : Value) (w : World) (h1 : ListsAt w v1 xs) (h2 : ListsAt w v2 ys) (he : xs.map Prod.fst = ys.map Prod.fst) :
    Calls Tryz.prog 12 #[.agg #[.int .u8 kd, v1], .agg #[.int .u8 kd, v2]] w fun e w' => e = .returned (.bool true) ∧ w.Exts w' := by
  have hlen : ys.length = xs.length := by rw [← List.length_map (f := Prod.fst), ← he, List.length_map]
  obtain ⟨p1, b1, o1, cap1, rfl, hm, hp1, hc1⟩ := h1.row.ex
  obtain ⟨p2, b2, o2, cap2, rfl, _, hp2, hc2⟩ := h2.row.ex
  have ht1 := h1.mem
  have ht2 := h2.mem
  rw [hlen] at hp2 ⊢
  have HC1 := Lib.hid hc1
  clear hc1
  have HC2 := Lib.hid hc2
  clear hc2
  have HT1 := Lib.hid ht1
  clear ht1
  have HT2 := Lib.hid ht2
  clear ht2
  have HE := Lib.hid he
  clear he
  clear h1 h2
  go_enter Tryz.func12, Tryz.ntmps12
  go_wp2_with fail
  go_loopw [5] (fun i wr => ∃ k : Nat, k ≤ xs.length ∧ i = .int .i64 k ∧ ((w.alloc (.cells #[.int .u8 kd, .slice p1 xs.length cap1] 36)).alloc (.cells #[.int .u8 kd, .slice p2 xs.length cap2] 36)).Exts wr) (fun i _ => xs.length - (intOf i).toNat)
  case atStart => exact ⟨0, Nat.zero_le _, rfl, exq⟩
  case round =>
    obtain ⟨k, hk, rfl, X, rfl⟩ := hrel
    rcases Nat.lt_or_ge k xs.length with hlt | hge
    · obtain ⟨rfl, hl1⟩ := hp1 (by omega)
      obtain ⟨rfl, hl2⟩ := hp2 (by omega)
      obtain ⟨⟨x, xv⟩, hx⟩ := some_of_lt hlt
      obtain ⟨⟨y, yv⟩, hy⟩ := some_of_lt (show k < ys.length by omega)
      have hxy : x = y := by
        have h := congrArg (fun l => l[k]?) HE.out
        simpa [hx, hy] using h
      subst hxy
      have hr1 := HT1.out _ (List.mem_of_getElem? hx)
      have hr2 := HT2.out _ (List.mem_of_getElem? hy)
      dsimp only at hr1 hr2
      have d1 := HC1.out k _ hx
      have d2 := HC2.out k _ hy
      have c10 := d1 0 _ rfl
      have c20 := d2 0 _ rfl
      simp only [Nat.add_zero, Nat.mul_one] at c10 c20
      obtain ⟨q1, e1, rfl⟩ := hr1.len
      obtain ⟨q2, e2, rfl⟩ := hr2.len
      have HR1 := Lib.hid hr1
      clear hr1
      have HR2 := Lib.hid hr2
      clear hr2
      clear hx hy d1 d2
      go_wp2_with fail
      refine wp_region_ext (by kernel_rfl) (by kernel_rfl) ?_
      repeat (go_big_quiet_step ((go_at_call 19; exact Calls.in_ext (r01_SameInts_any x _ _ _ (HR1.out.mono exq) (HR2.out.mono exq)))))
      refine wpQuiet_nil ?_
      rintro _ ⟨X, rfl⟩
      go_wp2_with fail
      go_roundw
      case rel => exact ⟨k + 1, by omega, by go_num, exq⟩
      case measure => simp [intOf]; omega
    · have hnl : ¬ k < xs.length := by omega
      go_wp2_with fail
      go_ret
      exact ⟨rfl, exq⟩

end Go.Proofs.YtcickafaomfbmaaGreatDoor

/-
  Walks of references: whether a cover or a plan is great; rows of rows that a function owns.
-/
namespace Go.Proofs.YtcickafaomfbmaaGreatDoor
open Go.RowKit Kr
set_option linter.unusedSimpArgs false
set_option linter.unusedVariables false

def greatC (c : Kr.Cover) (ps : List (List Int × Value)) : Bool := (((decide (20 < (c.track.length : Int)) || decide (20 < (c.beds.length : Int))) || decide (12 < (c.hours.length : Int))) || decide (12 < (ps.length : Int))) || ps.any fun x => decide (20 < (x.1.length : Int))
theorem greatC_false {c : Kr.Cover} {ps : List (List Int × Value)} (h : greatC c ps = false) : c.track.length ≤ 20 ∧ c.beds.length ≤ 20 ∧ c.hours.length ≤ 12 ∧ ps.length ≤ 12 ∧ ∀ x ∈ ps, x.1.length ≤ 20 := by
  unfold greatC at h
  simp only [Bool.or_eq_false_iff, decide_eq_false_iff_not] at h
  obtain ⟨⟨⟨⟨h1, h2⟩, h3⟩, h4⟩, h5⟩ := h
  refine ⟨by omega, by omega, by omega, by omega, fun x hx => ?_⟩
  have h6 := List.any_eq_false.1 h5 x hx
  simp at h6
  omega

set_option maxHeartbeats 2000000 in
theorem r02_Great_any (c : Kr.Cover) (v : CoverV) (ps : List (List Int × Value)) (pv : Value) (w : World) (h : CoverAt w c v) (hp : ListsAt w pv ps) :
    Calls Tryz.prog 6 #[.agg #[v.t, v.b, v.h, .int .i64 c.wear.lo, .int .i64 c.wear.hi, .int .i64 c.layer.lo, .int .i64 c.layer.hi, .int .i64 c.rate, .int .i64 c.limit, .int .i64 c.base], pv] w fun e w' => e = .returned (.bool (greatC c ps)) ∧ w.Exts w' := by
  have ht := fun (W : World) (hE : w.Exts W) => r01_Great_any c.track v.t W (h.tr.mono hE)
  obtain ⟨qp, pb, po, cp, rfl, hpm, hpq, hpc⟩ := hp.row.ex
  have hpmem := hp.mem
  obtain ⟨vt, vb, vh⟩ := v
  obtain ⟨qt, ct, hqt⟩ := h.tr.len
  obtain ⟨qb, cb, hqb⟩ := h.bd.len
  obtain ⟨qh, ch, hqh⟩ := h.hr.len
  dsimp only at hqt hqb hqh
  subst hqt hqb hqh
  clear h hp
  dsimp only at ht
  obtain ⟨b1, e1⟩ : ∃ z, decide (20 < (c.track.length : Int)) = z := ⟨_, rfl⟩
  obtain ⟨b2, e2⟩ : ∃ z, decide (20 < (c.beds.length : Int)) = z := ⟨_, rfl⟩
  obtain ⟨b3, e3⟩ : ∃ z, decide (12 < (c.hours.length : Int)) = z := ⟨_, rfl⟩
  obtain ⟨b4, e4⟩ : ∃ z, decide (12 < (ps.length : Int)) = z := ⟨_, rfl⟩
  have hf : greatC c ps = ((((b1 || b2) || b3) || b4) || ps.any fun x => decide (20 < (x.1.length : Int))) := by unfold greatC; rw [e1, e2, e3, e4]
  rw [e1] at ht
  have f2 : decide (20 < c.beds.length) = b2 := by rw [← e2, decide_eq_decide]; omega
  have f3 : decide (12 < c.hours.length) = b3 := by rw [← e3, decide_eq_decide]; omega
  have f4 : decide (12 < ps.length) = b4 := by rw [← e4, decide_eq_decide]; omega
  clear e1
  have HT := Lib.hid ht
  clear ht
  have HF := Lib.hid hf
  clear hf
  have HPQ := Lib.hid hpq
  clear hpq
  have HPC := Lib.hid hpc
  clear hpc
  have HPM := Lib.hid hpmem
  clear hpmem
  cases b1
  case true =>
    go_enter Tryz.func6, Tryz.ntmps6
    go_wp2_with (go_at_call 22; refine (HT.out _ exq).mono ?_; rintro e w' ⟨rfl, X1, rfl⟩)
    go_ret
    exact ⟨by rw [HF.out]; simp, exq⟩
  cases b2
  case true =>
    go_enter Tryz.func6, Tryz.ntmps6
    go_wp2_with (go_at_call 22; refine (HT.out _ exq).mono ?_; rintro e w' ⟨rfl, X1, rfl⟩)
    go_ret
    exact ⟨by rw [HF.out]; simp, exq⟩
  cases b3
  case true =>
    go_enter Tryz.func6, Tryz.ntmps6
    go_wp2_with (go_at_call 22; refine (HT.out _ exq).mono ?_; rintro e w' ⟨rfl, X1, rfl⟩)
    go_ret
    exact ⟨by rw [HF.out]; simp, exq⟩
  cases b4
  case true =>
    go_enter Tryz.func6, Tryz.ntmps6
    go_wp2_with (go_at_call 22; refine (HT.out _ exq).mono ?_; rintro e w' ⟨rfl, X1, rfl⟩)
    go_ret
    exact ⟨by rw [HF.out]; simp, exq⟩
  go_enter Tryz.func6, Tryz.ntmps6
  go_wp2_with (go_at_call 22; refine (HT.out _ exq).mono ?_; rintro e w' ⟨rfl, X1, rfl⟩)
  clear e2 e3 e4 f2 f3 f4
  go_loopw [5] (fun i wr => ∃ k : Nat, k ≤ ps.length ∧ i = .int .i64 k ∧ Hid (∀ j y, j < k → ps[j]? = some y → (!decide (20 < (y.1.length : Int))) = true) ∧ (World.ext _ X1).Exts wr) (fun i _ => ps.length - (intOf i).toNat)
  case atStart => exact ⟨0, Nat.zero_le _, rfl, Lib.hid (fun j y hj => by omega), exq⟩
  case round =>
    obtain ⟨k, hk, rfl, HA, hE⟩ := hrel
    obtain ⟨X2, rfl⟩ := hE
    rcases Nat.lt_or_ge k ps.length with hlt | hge
    · obtain ⟨rfl, hlay⟩ := HPQ.out (by omega)
      obtain ⟨⟨l, lv⟩, hx⟩ := some_of_lt hlt
      have p0 := HPC.out k _ hx 0 _ rfl
      simp only [Nat.mul_one, Nat.add_zero] at p0
      have hrow := HPM.out _ (List.mem_of_getElem? hx)
      dsimp only at hrow
      obtain ⟨ql, lc, rfl⟩ := hrow.len
      have w1 : (k : Int) < (ps.length : Int) := by omega
      clear hrow
      rcases Int.lt_or_le 20 (l.length : Int) with hl | hl
      · have hbad : (ps.any fun x => decide (20 < (x.1.length : Int))) = true := List.any_eq_true.2 ⟨_, List.mem_of_getElem? hx, by simpa using hl⟩
        have hd : decide (20 < l.length) = true := decide_eq_true (by omega)
        have HBAD := Lib.hid hbad
        clear hbad
        clear hx
        go_wp2_with fail
        go_ret
        exact ⟨by rw [HF.out, HBAD.out]; simp, exq⟩
      · have hd : decide (20 < l.length) = false := decide_eq_false (by omega)
        have hnl : ¬ 20 < l.length := by omega
        have hgood := all_at (f := fun y : List Int × Value => !decide (20 < (y.1.length : Int))) hx HA.out (by simpa using hl)
        have HGOOD := Lib.hid hgood
        clear hgood
        clear hx
        go_wp2_with fail
        go_roundw
        case rel => exact ⟨k + 1, by omega, by go_num, HGOOD, exq⟩
        case measure => simp [intOf]; omega
    · have hall := all_end (f := fun y : List Int × Value => !decide (20 < (y.1.length : Int))) hge HA.out
      have hany : (ps.any fun x => decide (20 < (x.1.length : Int))) = false := by
        rw [List.any_eq_false]
        intro x hx
        have h1 := List.all_eq_true.1 hall x hx
        simpa using h1
      have hnl : ¬ k < ps.length := by omega
      have HANY := Lib.hid hany
      clear hany
      clear HA hall
      go_wp2_with fail
      go_ret
      exact ⟨by rw [HF.out, HANY.out]; rfl, exq⟩

theorem row_set {α : Type} {enc : α → List Value} {k : Nat} {W : World} {v : Value} {xs : List α} (h : IsRow enc k W v xs) {a : Addr} (hne : ∀ b, v.ownBlock = some b → b ≠ a.block) (u : Value) : IsRow enc k (W.setCell a u) v xs := by
  obtain ⟨p, b, o, cap, rfl, hm, hp, hc⟩ := h.ex
  refine ⟨p, b, o, cap, rfl, hm, fun h0 => ⟨(hp h0).1, ⟨by simpa using (hp h0).2.lt⟩⟩, fun i x hx j w hw => ?_⟩
  have h0 : 0 < xs.length := by have := (List.getElem?_eq_some_iff.1 hx).1; omega
  obtain ⟨rfl, hl⟩ := hp h0
  have h1 := hc i x hx j w hw
  rw [World.cell?_setCell_other W _ _ u (fun e => hne b rfl (by rw [e]))]
  exact h1
/-- Rows of numbers that lie in a slice that a function owns. -/
structure OwnLists (w : World) (base : Nat) (v : Value) (ps : List (List Int × Value)) : Prop where
  own : w.ownsRow base 45 1 v ps.length (ps.flatMap fun x => [x.2])
  base_le : base ≤ w.heap.size
  mem : ∀ x ∈ ps, IsRow (fun x : Int => [.int .i64 x]) 1 w x.2 x.1 ∧ ∀ b, x.2.ownBlock = some b → base ≤ b ∧ b < w.heap.size ∧ v.ownBlock ≠ some b
theorem OwnLists.exts {w w' : World} {base : Nat} {v : Value} {ps : List (List Int × Value)} (h : OwnLists w base v ps) (hE : w.Exts w') : OwnLists w' base v ps :=
  ⟨ownsRow_exts h.own hE, Nat.le_trans h.base_le hE.size, fun x hx => ⟨(h.mem x hx).1.mono hE, fun b hb => ⟨((h.mem x hx).2 b hb).1, Nat.lt_of_lt_of_le ((h.mem x hx).2 b hb).2.1 hE.size, ((h.mem x hx).2 b hb).2.2⟩⟩⟩
theorem OwnLists.lists {w : World} {base : Nat} {v : Value} {ps : List (List Int × Value)} (h : OwnLists w base v ps) : ListsAt w v ps := ⟨IsRow.of_owns h.own (fun _ _ => rfl), fun x hx => (h.mem x hx).1⟩
theorem OwnLists.add {w w' : World} {base : Nat} {v v' vp : Value} {ps : List (List Int × Value)} {l : List Int} (h : OwnLists w base v ps) (hown : w'.ownsRow base 45 1 v' (ps.length + 1) ((ps.flatMap fun x => [x.2]) ++ [vp])) (ha : AppendedW w w' v v' base)
    (hr : IsRow (fun x : Int => [.int .i64 x]) 1 w vp l) (hb : ∀ b, vp.ownBlock = some b → base ≤ b ∧ b < w.heap.size ∧ v.ownBlock ≠ some b) (hsz : w.heap.size ≤ w'.heap.size) : OwnLists w' base v' (ps ++ [(l, vp)]) := by
  refine ⟨by simpa using hown, Nat.le_trans h.base_le hsz, fun x hx => ?_⟩
  have hx' : IsRow (fun x : Int => [.int .i64 x]) 1 w x.2 x.1 ∧ ∀ b, x.2.ownBlock = some b → base ≤ b ∧ b < w.heap.size ∧ v.ownBlock ≠ some b := by
    rcases List.mem_append.1 hx with hx | hx
    · exact h.mem x hx
    · rw [List.mem_singleton.1 hx]; exact ⟨hr, hb⟩
  obtain ⟨a1, a2⟩ := hx'
  exact ⟨row_appended a1 ha fun b e => (a2 b e).2.2, fun b e => ⟨(a2 b e).1, Nat.lt_of_lt_of_le (a2 b e).2.1 hsz, ha.beside b (a2 b e).2.1 (a2 b e).2.2⟩⟩
theorem OwnLists.put {w : World} {base : Nat} {v : Value} {ps : List (List Int × Value)} (h : OwnLists w base v ps) {a : Addr} (ha : a.block < base) (u : Value) : OwnLists (w.setCell a u) base v ps :=
  ⟨World.ownsRow.set h.own (by omega) u, by simpa using h.base_le, fun x hx => ⟨row_set (h.mem x hx).1 (fun b hb => by have := ((h.mem x hx).2 b hb).1; omega) u, fun b hb => by have h1 := (h.mem x hx).2 b hb; exact ⟨h1.1, by simpa using h1.2.1, h1.2.2⟩⟩⟩
theorem OwnLists.none (w : World) (base : Nat) (h : base ≤ w.heap.size) : OwnLists w base (.slice none 0 0) [] := ⟨World.ownsRow_nil _ _ _ _, h, fun x hx => by cases hx⟩
theorem elem_Slint : ElemOf Tryz.prog 31 45 (.slice none 0 0) 1 24 := ⟨Tryz.underlying31, by kernel_rfl, rfl, by decide, by decide⟩
/-- A row of five numbers, and of two, written out. -/
theorem row_fiveL (w : World) (a b c d e : Int) (n : Nat) (hn : n = w.heap.size) : IsRow (fun x : Int => [.int .i64 x]) 1 (w.alloc (.cells #[.int .i64 a, .int .i64 b, .int .i64 c, .int .i64 d, .int .i64 e] 3)) (.slice (some ⟨n, 0, none⟩) 5 5) [a, b, c, d, e] := by
  subst hn
  refine ⟨some ⟨w.heap.size, 0, none⟩, w.heap.size, 0, 5, rfl, by simp, fun _ => ⟨rfl, lays_new _ _⟩, fun i x h j u hj => ?_⟩
  rcases j with _ | j <;> simp at hj
  subst hj
  rcases i with _ | _ | _ | _ | _ | i <;> simp at h
  all_goals
    subst h
    rw [World.cell?_alloc_new]
    rfl
end Go.Proofs.YtcickafaomfbmaaGreatDoor

/-
  Walks of the reference of sheets: the ice book.
-/
namespace Go.Proofs.YtcickafaomfbmaaGreatDoor
open Go.RowKit Kr
set_option linter.unusedSimpArgs false
set_option linter.unusedVariables false

theorem rowsPart_len (c : Kr.Cover) (plan : List (List Int)) : ∀ (h i : Nat), (rowsPart c plan h i).length = h * c.beds.length + i
  | 0, 0 => by simp [rowsPart, rowsTo]
  | h + 1, 0 => by rw [rowsPart_zero, rowsTo_succ, rowsPart_len c plan h c.beds.length, Nat.succ_mul]; omega
  | h, i + 1 => by rw [rowsPart_succ, List.length_append, rowsPart_len c plan h i, List.length_singleton]; omega
/-- What a function that makes a sheet gives. -/
def SheetIs (w : World) (kd : Int) (rows : List (List Int)) (err : Int) (e : Ending) (w' : World) : Prop :=
  ∃ v ps, e = .returned (.tuple #[.agg #[.int .u8 kd, v], .int .i64 err]) ∧ ListsAt w' v ps ∧ ps.map Prod.fst = rows ∧ w.Exts w'
theorem lists_none (w : World) : ListsAt w (.slice none 0 0) [] := ⟨IsRow.nil w, fun x hx => by cases hx⟩

end Go.Proofs.YtcickafaomfbmaaGreatDoor

/-
  Walks of package sheet: the ice book.
-/
namespace Go.Proofs.YtcickafaomfbmaaGreatDoor
open Go.RowKit Kr
set_option linter.unusedSimpArgs false
set_option linter.unusedVariables false

set_option maxRecDepth 4000 in
set_option maxHeartbeats 8000000 in
theorem sheet_OfIce_of (c : Kr.Cover) (v : CoverV) (ps : List (List Int × Value)) (pv : Value) (w : World) (h : CoverAt w c v) (hp : ListsAt w pv ps) (hpf : ∀ x ∈ ps, x.1.length ≤ 1000) (hsd : ∀ s ∈ c.track, 0 ≤ s.side ∧ s.side ≤ 255)
    (hthin : ∀ W : World, w.Exts W → Calls Tryz.prog 25 #[.agg #[v.t, v.b, v.h, .int .i64 c.wear.lo, .int .i64 c.wear.hi, .int .i64 c.layer.lo, .int .i64 c.layer.hi, .int .i64 c.rate, .int .i64 c.limit, .int .i64 c.base], pv] W fun e w' => ∃ q n k, e = .returned (.tuple #[.slice q n k, .int .i64 (planErr c (ps.map Prod.fst))]) ∧ W.Exts w') :
    Calls Tryz.prog 8 #[.agg #[v.t, v.b, v.h, .int .i64 c.wear.lo, .int .i64 c.wear.hi, .int .i64 c.layer.lo, .int .i64 c.layer.hi, .int .i64 c.rate, .int .i64 c.limit, .int .i64 c.base], pv] w (SheetIs w (if planErr c (ps.map Prod.fst) = 0 then 3 else 0) (if planErr c (ps.map Prod.fst) = 0 then rowsTo c (ps.map Prod.fst) c.hours.length else []) (planErr c (ps.map Prod.fst))) := by
  obtain ⟨err, he⟩ : ∃ z, planErr c (ps.map Prod.fst) = z := ⟨_, rfl⟩
  rw [he] at hthin ⊢
  by_cases h0 : err = 0
  · subst h0
    obtain ⟨hce, hva⟩ := planErr_zero he
    have hf := cover_facts hce
    have hpl : ps.length = c.hours.length := by
      unfold validP at hva
      simp at hva
      exact hva.1
    have ht := fun (i m : Nat) (hi : i < c.beds.length) (hm : m ≤ c.hours.length) (W : World) (hE : w.Exts W) => ice_Thick_any c v ps pv i m W (h.mono hE) (hp.mono hE) hsd he hi hm hpf
    rw [if_pos rfl, if_pos rfl]
    obtain ⟨qp, pb, po, cp, rfl, hpm, hpq, hpc⟩ := hp.row.ex
    have hpmem := hp.mem
    have hb8 := hf.hours.2
    have hb12 := hf.t1.2
    have hbb := hf.beds
    obtain ⟨vt, vb, vh⟩ := v
    obtain ⟨qt, ct, hqt⟩ := h.tr.len
    obtain ⟨qb, cb, hqb⟩ := h.bd.len
    obtain ⟨qh, ch, hqh⟩ := h.hr.len
    dsimp only at hqt hqb hqh
    subst hqt hqb hqh
    clear h hp he hce hva hf hsd
    dsimp only at hthin ht
    have hc12 : c.beds.length ≤ 12 := by omega
    clear hb12 hbb
    have HTHIN := Lib.hid hthin
    clear hthin
    have HT := Lib.hid ht
    clear ht
    have HPQ := Lib.hid hpq
    clear hpq
    have HPC := Lib.hid hpc
    clear hpc
    have HPM := Lib.hid hpmem
    clear hpmem
    have HPF := Lib.hid hpf
    clear hpf
    have HPL := Lib.hid hpl
    clear hpl
    go_enter Tryz.func8, Tryz.ntmps8
    go_wp2_with (go_at_call 25; refine (HTHIN.out _ exq).mono ?_; rintro e w' ⟨q0, n0, k0, rfl, X1, rfl⟩)
    have z1 := World.size_ext_le _ X1
    simp at z1
    go_loopw [9, 28] (fun _ t wr => ∃ (hh : Nat) (v : Value) (rs : List (List Int × Value)), hh ≤ c.hours.length ∧ t = .int .i64 hh ∧ Hid (rs.map Prod.fst = rowsTo c (ps.map Prod.fst) hh) ∧ (World.ext _ X1).Exts wr ∧ Hid (LaysAs wr (World.ext _ X1).heap.size (.cells [.int .u8 3, v].toArray 36 (0, 0))) ∧ Hid (OwnLists wr ((World.ext _ X1).heap.size + 1) v rs)) (fun _ t _ => c.hours.length - (intOf t).toNat)
    case atStart => exact ⟨0, .slice none 0 0, [], Nat.zero_le _, rfl, rfl, exq, Lib.hid (laysAs_size _ _ rfl), Lib.hid (OwnLists.none _ _ (by simp))⟩
    case round =>
      obtain ⟨hh, v, rs, hhk, rfl, HRS, hE, HL, HO⟩ := hrel
      obtain ⟨X3, rfl⟩ := hE
      obtain ⟨qv, cv, hqv⟩ := owns_len HO.out.own
      subst hqv
      have l0 := LaysAs.cell HL.out 0 _ rfl
      have l1 := LaysAs.cell HL.out 1 _ rfl
      have nl := Lays.of_cell l0
      rcases Nat.lt_or_ge hh c.hours.length with hlt | hge
      · have w1 : (hh : Int) < (c.hours.length : Int) := by omega
        go_wp2_with fail
        clear l0 l1 nl
        go_loopw [10, 34] (fun _ t wr => ∃ (i : Nat) (v : Value) (rs : List (List Int × Value)), i ≤ c.beds.length ∧ t = .int .i64 i ∧ Hid (rs.map Prod.fst = rowsPart c (ps.map Prod.fst) hh i) ∧ (World.ext _ X1).Exts wr ∧ Hid (LaysAs wr (World.ext _ X1).heap.size (.cells [.int .u8 3, v].toArray 36 (0, 0))) ∧ Hid (OwnLists wr ((World.ext _ X1).heap.size + 1) v rs)) (fun _ t _ => c.beds.length - (intOf t).toNat)
        case atStart => exact ⟨0, _, rs, Nat.zero_le _, rfl, Lib.hid (by rw [rowsPart_zero]; exact HRS.out), exq, HL, HO⟩
        case round =>
          clear HRS HL HO
          obtain ⟨i, v, rs, hik, rfl, HRS, hE, HL, HO⟩ := hrel
          obtain ⟨X4, rfl⟩ := hE
          obtain ⟨qv, cv, hqv⟩ := owns_len HO.out.own
          subst hqv
          have l0 := LaysAs.cell HL.out 0 _ rfl
          have l1 := LaysAs.cell HL.out 1 _ rfl
          have nl := Lays.of_cell l0
          have f1 := laysAs_frz (i := 1) HL.out
          rcases Nat.lt_or_ge i c.beds.length with hilt | hige
          · obtain ⟨rfl, hlay⟩ := HPQ.out (by have := HPL.out; omega)
            obtain ⟨⟨l, lv⟩, hx⟩ := some_of_lt (show hh < ps.length by have := HPL.out; omega)
            have p0 := HPC.out hh _ hx 0 _ rfl
            simp only [Nat.mul_one, Nat.add_zero] at p0
            have hrow := HPM.out _ (List.mem_of_getElem? hx)
            have hlf := HPF.out _ (List.mem_of_getElem? hx)
            dsimp only at hrow hlf
            obtain ⟨ql, lc, rfl⟩ := hrow.len
            obtain ⟨sp, hsp⟩ : ∃ z, (l.any fun y => y == (i : Int)) = z := ⟨_, rfl⟩
            have hspr : sprayed (ps.map Prod.fst) hh i = sp := by
              unfold sprayed
              rw [getD_of (show (ps.map Prod.fst)[hh]? = some l by rw [List.getElem?_map, hx]; rfl), hsp]
            have hnext := rowsPart_succ c (ps.map Prod.fst) hh i
            unfold Kr.rowAt at hnext
            rw [hspr] at hnext
            have hTi := HT.out i hh hilt (by omega)
            obtain ⟨⟨tlo, thi⟩, hT⟩ : ∃ z, thickAt c (ps.map Prod.fst) i hh = z := ⟨_, rfl⟩
            rw [hT] at hnext hTi
            dsimp only at hnext hTi
            have hrl : rs.length = hh * c.beds.length + i := by
              have h1 := congrArg List.length HRS.out
              rwa [List.length_map, rowsPart_len] at h1
            have hrl2 : rs.length ≤ 1000 := by
              have h2 := Nat.mul_le_mul hb8 hc12
              have h3 : hh * c.beds.length ≤ 8 * 12 := Nat.mul_le_mul (by omega) hc12
              omega
            have w2 : (i : Int) < (c.beds.length : Int) := by omega
            have w3 : (hh : Int) < (ps.length : Int) := by have := HPL.out; omega
            have hob : ∀ b, (Value.slice qv rs.length cv).ownBlock = some b → b < (World.ext _ X4).heap.size := fun b e => (HO.out.own.lt b e).2
            have HOB := Lib.hid hob
            clear hob
            have HNEXT := Lib.hid hnext
            clear hnext
            have HTI := Lib.hid hTi
            clear hTi
            have HSP := Lib.hid hsp
            clear hsp
            have HROW := Lib.hid hrow
            clear hrow
            clear hx hspr hT hrl
            cases sp
            · go_wp2_with (first
                | (go_at_call 13; refine (HTI.out _ exq).mono ?_; rintro e w' ⟨rfl, X5, rfl⟩)
                | (go_at_call 26; refine (Contains_int_any l (i : Int) _ _ (HROW.out.mono exq)).mono ?_; rintro e w' ⟨rfl, X6, rfl⟩; rw [HSP.out])
                | (at_builtin; refine wpList_append1W (.tmp 52) (.tmp 61) elem_Slint rfl rfl rfl (ownsRow_exts HO.out.own exq) [.slice (some ⟨_, 0, none⟩) 5 5] _ (by simp) rfl rfl ?h1 ?h2 ?h4 ?h3 ?_))
              case h1 => intro u hu; simp at hu; subst hu; rfl
              case h2 => omega
              try (case h4 => decide)
              case h3 => exact Nat.le_trans HO.out.base_le (World.Exts.size exq)
              intro v' w' hown' happ
              have hE8 := happ.exts (World.ext _ X1) exq (by omega)
              have hrow5 := row_fiveL (World.ext _ X6) hh i tlo thi 0 _ rfl
              have hOL := OwnLists.add (HO.out.exts exq) hown' happ hrow5 (fun b e => by
                have hb : (World.ext _ X6).heap.size = b := by simpa [Value.ownBlock] using e
                subst hb
                have hs4 : (World.ext _ X4).heap.size ≤ (World.ext _ X6).heap.size := World.Exts.size exq
                refine ⟨Nat.le_trans HO.out.base_le hs4, by simp, fun e2 => ?_⟩
                have := HOB.out _ e2
                omega) happ.size
              have hLS := LaysAs.appended (HL.out.exts exq) happ (fun e => by have := (HO.out.own.lt _ e).1; omega)
              obtain ⟨q', c', hv'⟩ := owns_len hown'
              subst hv'
              clear l0 l1 nl f1
              obtain ⟨X7, rfl⟩ := hE8
              have l1 := LaysAs.cell hLS.1 1 _ rfl
              have nl := Lays.of_cell l1
              have f1 := laysAs_frz (i := 1) hLS.1
              have HOL := Lib.hid hOL
              clear hOL
              have HLS := Lib.hid hLS
              clear hLS
              clear happ hown' hrow5
              go_wp2_with fail
              go_roundw
              case rel => exact ⟨i + 1, _, _, by omega, by go_num, Lib.hid (by rw [List.map_append, HRS.out, HNEXT.out]; rfl), exq, Lib.hid (LaysAs.set (cs := [.int .u8 3, _]) HLS.out.1 (i := 1) _), Lib.hid (HOL.out.put (by dsimp only; omega) _)⟩
              case measure => simp [intOf]; omega
            · go_wp2_with (first
                | (go_at_call 13; refine (HTI.out _ exq).mono ?_; rintro e w' ⟨rfl, X5, rfl⟩)
                | (go_at_call 26; refine (Contains_int_any l (i : Int) _ _ (HROW.out.mono exq)).mono ?_; rintro e w' ⟨rfl, X6, rfl⟩; rw [HSP.out])
                | (at_builtin; refine wpList_append1W (.tmp 52) (.tmp 61) elem_Slint rfl rfl rfl (ownsRow_exts HO.out.own exq) [.slice (some ⟨_, 0, none⟩) 5 5] _ (by simp) rfl rfl ?i1 ?i2 ?i4 ?i3 ?_))
              case i1 => intro u hu; simp at hu; subst hu; rfl
              case i2 => omega
              try (case i4 => decide)
              case i3 => exact Nat.le_trans HO.out.base_le (World.Exts.size exq)
              intro v' w' hown' happ
              have hE8 := happ.exts (World.ext _ X1) exq (by omega)
              have hrow5 := row_fiveL (World.ext _ X6) hh i tlo thi 1 _ rfl
              have hOL := OwnLists.add (HO.out.exts exq) hown' happ hrow5 (fun b e => by
                have hb : (World.ext _ X6).heap.size = b := by simpa [Value.ownBlock] using e
                subst hb
                have hs4 : (World.ext _ X4).heap.size ≤ (World.ext _ X6).heap.size := World.Exts.size exq
                refine ⟨Nat.le_trans HO.out.base_le hs4, by simp, fun e2 => ?_⟩
                have := HOB.out _ e2
                omega) happ.size
              have hLS := LaysAs.appended (HL.out.exts exq) happ (fun e => by have := (HO.out.own.lt _ e).1; omega)
              obtain ⟨q', c', hv'⟩ := owns_len hown'
              subst hv'
              clear l0 l1 nl f1
              obtain ⟨X7, rfl⟩ := hE8
              have l1 := LaysAs.cell hLS.1 1 _ rfl
              have nl := Lays.of_cell l1
              have f1 := laysAs_frz (i := 1) hLS.1
              have HOL := Lib.hid hOL
              clear hOL
              have HLS := Lib.hid hLS
              clear hLS
              clear happ hown' hrow5
              go_wp2_with fail
              go_roundw
              case rel => exact ⟨i + 1, _, _, by omega, by go_num, Lib.hid (by rw [List.map_append, HRS.out, HNEXT.out]; rfl), exq, Lib.hid (LaysAs.set (cs := [.int .u8 3, _]) HLS.out.1 (i := 1) _), Lib.hid (HOL.out.put (by dsimp only; omega) _)⟩
              case measure => simp [intOf]; omega
          · have hir : i = c.beds.length := by omega
            have hnl : ¬ i < c.beds.length := by omega
            have hnx := HRS.out
            rw [hir, ← rowsTo_succ] at hnx
            have HNX := Lib.hid hnx
            clear hnx
            clear hir HRS
            go_wp2_with fail
            go_roundw
            case rel => exact ⟨hh + 1, _, rs, by omega, by go_num, HNX, exq, HL, HO⟩
            case measure => simp [intOf]; omega
      · have hhr : hh = c.hours.length := by omega
        have hnl : ¬ hh < c.hours.length := by omega
        have hrs := HRS.out
        rw [hhr] at hrs
        have HRS2 := Lib.hid hrs
        clear hrs
        clear hhr HRS hge hhk
        go_wp2_with fail
        refine bodyPost_ret (v := .tuple #[.agg #[.int .u8 3, .slice qv rs.length cv], .int .i64 0]) (by simp [results, Tryz.results8, go_sem]) rfl ?_
        exact ⟨_, rs, rfl, ((HO.out.put (by dsimp only; omega) _).put (by dsimp only; omega) _).lists, HRS2.out, exq⟩
  · rw [if_neg h0, if_neg h0]
    obtain ⟨qp, cp, rfl⟩ := hp.row.len
    obtain ⟨vt, vb, vh⟩ := v
    obtain ⟨qt, ct, hqt⟩ := h.tr.len
    obtain ⟨qb, cb, hqb⟩ := h.bd.len
    obtain ⟨qh, ch, hqh⟩ := h.hr.len
    dsimp only at hqt hqb hqh
    subst hqt hqb hqh
    clear h hp he
    dsimp only at hthin
    have HTHIN := Lib.hid hthin
    clear hthin
    have e1 : (err != 0) = true := by simpa using h0
    have e2 : decide (err = 0) = false := by simpa using h0
    go_enter Tryz.func8, Tryz.ntmps8
    go_wp2_with (go_at_call 25; refine (HTHIN.out _ exq).mono ?_; rintro e w' ⟨q0, n0, k0, rfl, X1, rfl⟩)
    refine bodyPost_ret (v := .tuple #[.agg #[.int .u8 0, .slice none 0 0], .int .i64 err]) (by simp [results, Tryz.results8, go_sem]) rfl ?_
    exact ⟨_, [], rfl, lists_none _, rfl, exq⟩
end Go.Proofs.YtcickafaomfbmaaGreatDoor

/-
  Walks of packages ice and sheet: Thin, and the ice book.
-/
namespace Go.Proofs.YtcickafaomfbmaaGreatDoor
open Go.RowKit Kr
set_option linter.unusedSimpArgs false
set_option linter.unusedVariables false

set_option maxRecDepth 4000 in
set_option maxHeartbeats 4000000 in
theorem ice_Thin_any (c : Kr.Cover) (v : CoverV) (ps : List (List Int × Value)) (pv : Value) (w : World) (h : CoverAt w c v) (hp : ListsAt w pv ps) (hl0 : LimsAt w) (hsd : ∀ s ∈ c.track, 0 ≤ s.side ∧ s.side ≤ 255) (hpf : ∀ x ∈ ps, x.1.length ≤ 1000) :
    Calls Tryz.prog 25 #[.agg #[v.t, v.b, v.h, .int .i64 c.wear.lo, .int .i64 c.wear.hi, .int .i64 c.layer.lo, .int .i64 c.layer.hi, .int .i64 c.rate, .int .i64 c.limit, .int .i64 c.base], pv] w fun e w' => ∃ q n k, e = .returned (.tuple #[.slice q n k, .int .i64 (planErr c (ps.map Prod.fst))]) ∧ w.Exts w' := by
  have hask := fun (W : World) (hE : w.Exts W) => ice_asked_any c v ps pv W (h.mono hE) (hp.mono hE) hsd
  have hth := fun (hce : coverErr c = 0) (hpl : ps.length = c.hours.length) (rb : Nat) (W : World) (hE : w.Exts W) (hr : LaysAs W rb (.cells #[v.t, v.b, v.h, .int .i64 c.wear.lo, .int .i64 c.wear.hi, .int .i64 c.layer.lo, .int .i64 c.layer.hi, .int .i64 c.rate, .int .i64 c.limit, .int .i64 c.base] 156)) => rink_thin_any rb c v ps pv W (h.mono hE) (hp.mono hE) hr (hl0.mono hE) (cover_facts hce) hpl hpf
  obtain ⟨err, he⟩ : ∃ z, planErr c (ps.map Prod.fst) = z := ⟨_, rfl⟩
  rw [he] at hask ⊢
  unfold RinkOf at hask
  obtain ⟨qp, cp, rfl⟩ := hp.row.len
  obtain ⟨vt, vb, vh⟩ := v
  obtain ⟨qt, ct, hqt⟩ := h.tr.len
  obtain ⟨qb, cb, hqb⟩ := h.bd.len
  obtain ⟨qh, ch, hqh⟩ := h.hr.len
  dsimp only at hqt hqb hqh
  subst hqt hqb hqh
  dsimp only at hask hth
  clear h hp hl0 hsd hpf
  by_cases h0 : err = 0
  · subst h0
    obtain ⟨hce, hva⟩ := planErr_zero he
    have hpl : ps.length = c.hours.length := by
      unfold validP at hva
      simp at hva
      exact hva.1
    have hth := hth hce hpl
    clear hce hva he
    have HASK := Lib.hid hask
    clear hask
    have HTH := Lib.hid hth
    clear hth
    have HPL := Lib.hid hpl
    clear hpl
    go_enter Tryz.func25, Tryz.ntmps25
    go_wp2_with (first
      | (go_at_call 37; refine (HASK.out _ exq).mono ?_; rintro e w' ⟨p, rfl, hp, X1, rfl⟩; obtain ⟨rb, rfl, hl⟩ := hp rfl; have HL := Lib.hid hl; clear hp hl)
      | (go_at_call 53; refine (HTH.out rb _ exq (HL.out.exts exq)).mono ?_; rintro e w' ⟨q, m, k, rfl, X2, rfl⟩))
    refine bodyPost_ret (v := .tuple #[.slice q m k, .int .i64 0]) (by simp [results, Tryz.results25, go_sem]) rfl ?_
    exact ⟨q, m, k, rfl, exq⟩
  · have e1 : (err != 0) = true := by simpa using h0
    have e2 : decide (err = 0) = false := by simpa using h0
    clear hth he
    have HASK := Lib.hid hask
    clear hask
    go_enter Tryz.func25, Tryz.ntmps25
    go_wp2_with (go_at_call 37; refine (HASK.out _ exq).mono ?_; rintro e w' ⟨p, rfl, -, X1, rfl⟩)
    refine bodyPost_ret (v := .tuple #[.slice none 0 0, .int .i64 err]) (by simp [results, Tryz.results25, go_sem]) rfl ?_
    exact ⟨none, 0, 0, rfl, exq⟩

theorem sheet_OfIce_any (c : Kr.Cover) (v : CoverV) (ps : List (List Int × Value)) (pv : Value) (w : World) (h : CoverAt w c v) (hp : ListsAt w pv ps) (hl0 : LimsAt w) (hpf : ∀ x ∈ ps, x.1.length ≤ 1000) (hsd : ∀ s ∈ c.track, 0 ≤ s.side ∧ s.side ≤ 255) :
    Calls Tryz.prog 8 #[.agg #[v.t, v.b, v.h, .int .i64 c.wear.lo, .int .i64 c.wear.hi, .int .i64 c.layer.lo, .int .i64 c.layer.hi, .int .i64 c.rate, .int .i64 c.limit, .int .i64 c.base], pv] w (SheetIs w (if planErr c (ps.map Prod.fst) = 0 then 3 else 0) (if planErr c (ps.map Prod.fst) = 0 then rowsTo c (ps.map Prod.fst) c.hours.length else []) (planErr c (ps.map Prod.fst))) :=
  sheet_OfIce_of c v ps pv w h hp hpf hsd fun W hE => ice_Thin_any c v ps pv W (h.mono hE) (hp.mono hE) (hl0.mono hE) hsd hpf
end Go.Proofs.YtcickafaomfbmaaGreatDoor

/-
  Walks of the references of track and of ice: twins.
-/
namespace Go.Proofs.YtcickafaomfbmaaGreatDoor
open Go.RowKit Kr
set_option linter.unusedSimpArgs false
set_option linter.unusedVariables false

end Go.Proofs.YtcickafaomfbmaaGreatDoor
