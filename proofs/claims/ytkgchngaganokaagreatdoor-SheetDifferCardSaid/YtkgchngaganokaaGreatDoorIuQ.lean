/-
  Several texts in one: see the heads of its parts.
-/
import Derived.Test.YtkgchngaganokaaGreatDoorIcF
import Derived.Test.YtkgchngaganokaaGreatDoorTq
import Derived.Test.YtkgchngaganokaaGreatDoorJdk
import Derived.Test.YtkgchngaganokaaGreatDoorIgK
import Derived.Test.YtkgchngaganokaaGreatDoorIsT
import Derived.Test.YtkgchngaganokaaGreatDoorIlO
import Derived.Test.YtkgchngaganokaaGreatDoorTk
import Derived.Test.YtkgchngaganokaaGreatDoorTm

/-
  Walks of references: what compares tracks, covers, plans, sheets; whether a cover is great.
-/
namespace Go.Proofs.YtkgchngaganokaaGreatDoor
open Go.RowKit Kr
set_option linter.unusedSimpArgs false
set_option linter.unusedVariables false

set_option maxHeartbeats 400000 in
theorem r01_SameInts_any (l : List Int) (v1 v2 : Value) (w : World) (h1 : IsRow (fun t : Int => [.int .i64 t]) 1 w v1 l) (h2 : IsRow (fun t : Int => [.int .i64 t]) 1 w v2 l) :
    Calls Tryz.prog 18 #[v1, v2] w fun e w' => e = .returned (.bool true) ∧ w.Exts w' := by
  obtain ⟨p1, b1, o1, cap1, rfl, hm, hp1, hc1⟩ := h1.ex
  obtain ⟨p2, b2, o2, cap2, rfl, hm2, hp2, hc2⟩ := h2.ex
  have HC1 := Lib.hid hc1
  clear hc1
  have HC2 := Lib.hid hc2
  clear hc2
  clear h1 h2
  go_enter Tryz.func18, Tryz.ntmps18
  go_wp2_with fail
  go_loopw [5] (fun i wr => ∃ k : Nat, k ≤ l.length ∧ i = .int .i64 k ∧ w.Exts wr) (fun i _ => l.length - (intOf i).toNat)
  case atStart => exact ⟨0, Nat.zero_le _, rfl, exq⟩
  case round =>
    obtain ⟨k, hk, rfl, X, rfl⟩ := hrel
    by_cases hlt : k < l.length
    · obtain ⟨rfl, hl1⟩ := hp1 (by omega)
      obtain ⟨rfl, hl2⟩ := hp2 (by omega)
      obtain ⟨x, hx⟩ := some_of_lt hlt
      have d1 := HC1.out k x hx
      have d2 := HC2.out k x hx
      have c10 := d1 0 _ rfl
      have c20 := d2 0 _ rfl
      simp only [Nat.add_zero, Nat.mul_one] at c10 c20
      clear hx d1 d2 hp1 hp2
      go_wp2_with fail
      refine wp_region_ext (by kernel_rfl) (by kernel_rfl) ?_
      repeat (go_big_quiet_step (fail))
      refine wpQuiet_nil ?_
      rintro _ ⟨X, rfl⟩
      go_wp2_with fail
      go_roundw
      case rel => exact ⟨k + 1, by omega, by go_num, exq⟩
      case measure => simp [intOf]; omega
    · go_wp2_with fail
      go_ret
      exact ⟨rfl, exq⟩
set_option maxHeartbeats 1000000 in
theorem r11_Same_any (kd : Int) (xs ys : List (List Int × Value)) (v1 v2 : Value) (w : World) (h1 : ListsAt w v1 xs) (h2 : ListsAt w v2 ys) (he : xs.map Prod.fst = ys.map Prod.fst) :
    Calls Tryz.prog 24 #[.agg #[.int .u8 kd, v1], .agg #[.int .u8 kd, v2]] w fun e w' => e = .returned (.bool true) ∧ w.Exts w' := by
  have hlen : ys.length = xs.length := by rw [← List.length_map (f := Prod.fst), ← he, List.length_map]
  obtain ⟨p1, b1, o1, cap1, rfl, hm, hp1, hc1⟩ := h1.row.ex
  obtain ⟨p2, b2, o2, cap2, rfl, _, hp2, hc2⟩ := h2.row.ex
  have ht1 := h1.mem
  have ht2 := h2.mem
  rw [hlen] at hp2 ⊢
  have HC1 := Lib.hid hc1
  clear hc1
  have HC2 := Lib.hid hc2
  clear hc2
  have HT1 := Lib.hid ht1
  clear ht1
  have HT2 := Lib.hid ht2
  clear ht2
  have HE := Lib.hid he
  clear he
  clear h1 h2
  go_enter Tryz.func24, Tryz.ntmps24
  go_wp2_with fail
  go_loopw [5] (fun i wr => ∃ k : Nat, k ≤ xs.length ∧ i = .int .i64 k ∧ ((w.alloc (.cells #[.int .u8 kd, .slice p1 xs.length cap1] 24)).alloc (.cells #[.int .u8 kd, .slice p2 xs.length cap2] 24)).Exts wr) (fun i _ => xs.length - (intOf i).toNat)
  case atStart => exact ⟨0, Nat.zero_le _, rfl, exq⟩
  case round =>
    obtain ⟨k, hk, rfl, X, rfl⟩ := hrel
    rcases Nat.lt_or_ge k xs.length with hlt | hge
    · obtain ⟨rfl, hl1⟩ := hp1 (by omega)
      obtain ⟨rfl, hl2⟩ := hp2 (by omega)
      obtain ⟨⟨x, xv⟩, hx⟩ := some_of_lt hlt
      obtain ⟨⟨y, yv⟩, hy⟩ := some_of_lt (show k < ys.length by omega)
      have hxy : x = y := by
        have h := congrArg (fun l => l[k]?) HE.out
        simpa [hx, hy] using h
      subst hxy
      have hr1 := HT1.out _ (List.mem_of_getElem? hx)
      have hr2 := HT2.out _ (List.mem_of_getElem? hy)
      dsimp only at hr1 hr2
      have d1 := HC1.out k _ hx
      have d2 := HC2.out k _ hy
      have c10 := d1 0 _ rfl
      have c20 := d2 0 _ rfl
      simp only [Nat.add_zero, Nat.mul_one] at c10 c20
      obtain ⟨q1, e1, rfl⟩ := hr1.len
      obtain ⟨q2, e2, rfl⟩ := hr2.len
      have HR1 := Lib.hid hr1
      clear hr1
      have HR2 := Lib.hid hr2
      clear hr2
      clear hx hy d1 d2
      go_wp2_with fail
      refine wp_region_ext (by kernel_rfl) (by kernel_rfl) ?_
      repeat (go_big_quiet_step ((go_at_call 18; exact Calls.in_ext (r01_SameInts_any x _ _ _ (HR1.out.mono exq) (HR2.out.mono exq)))))
      refine wpQuiet_nil ?_
      rintro _ ⟨X, rfl⟩
      go_wp2_with fail
      go_roundw
      case rel => exact ⟨k + 1, by omega, by go_num, exq⟩
      case measure => simp [intOf]; omega
    · have hnl : ¬ k < xs.length := by omega
      go_wp2_with fail
      go_ret
      exact ⟨rfl, exq⟩

end Go.Proofs.YtkgchngaganokaaGreatDoor

/-
  Walks of references: whether a cover or a plan is great; rows of rows that a function owns.
-/
namespace Go.Proofs.YtkgchngaganokaaGreatDoor
open Go.RowKit Kr
set_option linter.unusedSimpArgs false
set_option linter.unusedVariables false

def greatC (c : Kr.Cover) (ps : List (List Int × Value)) : Bool := (((decide (20 < (c.track.length : Int)) || decide (20 < (c.beds.length : Int))) || decide (12 < (c.hours.length : Int))) || decide (12 < (ps.length : Int))) || ps.any fun x => decide (20 < (x.1.length : Int))
theorem greatC_false {c : Kr.Cover} {ps : List (List Int × Value)} (h : greatC c ps = false) : c.track.length ≤ 20 ∧ c.beds.length ≤ 20 ∧ c.hours.length ≤ 12 ∧ ps.length ≤ 12 ∧ ∀ x ∈ ps, x.1.length ≤ 20 := by
  unfold greatC at h
  simp only [Bool.or_eq_false_iff, decide_eq_false_iff_not] at h
  obtain ⟨⟨⟨⟨h1, h2⟩, h3⟩, h4⟩, h5⟩ := h
  refine ⟨by omega, by omega, by omega, by omega, fun x hx => ?_⟩
  have h6 := List.any_eq_false.1 h5 x hx
  simp at h6
  omega

theorem row_set {α : Type} {enc : α → List Value} {k : Nat} {W : World} {v : Value} {xs : List α} (h : IsRow enc k W v xs) {a : Addr} (hne : ∀ b, v.ownBlock = some b → b ≠ a.block) (u : Value) : IsRow enc k (W.setCell a u) v xs := by
  obtain ⟨p, b, o, cap, rfl, hm, hp, hc⟩ := h.ex
  refine ⟨p, b, o, cap, rfl, hm, fun h0 => ⟨(hp h0).1, ⟨by simpa using (hp h0).2.lt⟩⟩, fun i x hx j w hw => ?_⟩
  have h0 : 0 < xs.length := by have := (List.getElem?_eq_some_iff.1 hx).1; omega
  obtain ⟨rfl, hl⟩ := hp h0
  have h1 := hc i x hx j w hw
  rw [World.cell?_setCell_other W _ _ u (fun e => hne b rfl (by rw [e]))]
  exact h1
/-- Rows of numbers that lie in a slice that a function owns. -/
structure OwnLists (w : World) (base : Nat) (v : Value) (ps : List (List Int × Value)) : Prop where
  own : w.ownsRow base 37 1 v ps.length (ps.flatMap fun x => [x.2])
  base_le : base ≤ w.heap.size
  mem : ∀ x ∈ ps, IsRow (fun x : Int => [.int .i64 x]) 1 w x.2 x.1 ∧ ∀ b, x.2.ownBlock = some b → base ≤ b ∧ b < w.heap.size ∧ v.ownBlock ≠ some b
theorem OwnLists.exts {w w' : World} {base : Nat} {v : Value} {ps : List (List Int × Value)} (h : OwnLists w base v ps) (hE : w.Exts w') : OwnLists w' base v ps :=
  ⟨ownsRow_exts h.own hE, Nat.le_trans h.base_le hE.size, fun x hx => ⟨(h.mem x hx).1.mono hE, fun b hb => ⟨((h.mem x hx).2 b hb).1, Nat.lt_of_lt_of_le ((h.mem x hx).2 b hb).2.1 hE.size, ((h.mem x hx).2 b hb).2.2⟩⟩⟩
theorem OwnLists.lists {w : World} {base : Nat} {v : Value} {ps : List (List Int × Value)} (h : OwnLists w base v ps) : ListsAt w v ps := ⟨IsRow.of_owns h.own (fun _ _ => rfl), fun x hx => (h.mem x hx).1⟩
theorem OwnLists.add {w w' : World} {base : Nat} {v v' vp : Value} {ps : List (List Int × Value)} {l : List Int} (h : OwnLists w base v ps) (hown : w'.ownsRow base 37 1 v' (ps.length + 1) ((ps.flatMap fun x => [x.2]) ++ [vp])) (ha : AppendedW w w' v v' base)
    (hr : IsRow (fun x : Int => [.int .i64 x]) 1 w vp l) (hb : ∀ b, vp.ownBlock = some b → base ≤ b ∧ b < w.heap.size ∧ v.ownBlock ≠ some b) (hsz : w.heap.size ≤ w'.heap.size) : OwnLists w' base v' (ps ++ [(l, vp)]) := by
  refine ⟨by simpa using hown, Nat.le_trans h.base_le hsz, fun x hx => ?_⟩
  have hx' : IsRow (fun x : Int => [.int .i64 x]) 1 w x.2 x.1 ∧ ∀ b, x.2.ownBlock = some b → base ≤ b ∧ b < w.heap.size ∧ v.ownBlock ≠ some b := by
    rcases List.mem_append.1 hx with hx | hx
    · exact h.mem x hx
    · rw [List.mem_singleton.1 hx]; exact ⟨hr, hb⟩
  obtain ⟨a1, a2⟩ := hx'
  exact ⟨row_appended a1 ha fun b e => (a2 b e).2.2, fun b e => ⟨(a2 b e).1, Nat.lt_of_lt_of_le (a2 b e).2.1 hsz, ha.beside b (a2 b e).2.1 (a2 b e).2.2⟩⟩
theorem OwnLists.put {w : World} {base : Nat} {v : Value} {ps : List (List Int × Value)} (h : OwnLists w base v ps) {a : Addr} (ha : a.block < base) (u : Value) : OwnLists (w.setCell a u) base v ps :=
  ⟨World.ownsRow.set h.own (by omega) u, by simpa using h.base_le, fun x hx => ⟨row_set (h.mem x hx).1 (fun b hb => by have := ((h.mem x hx).2 b hb).1; omega) u, fun b hb => by have h1 := (h.mem x hx).2 b hb; exact ⟨h1.1, by simpa using h1.2.1, h1.2.2⟩⟩⟩
theorem OwnLists.none (w : World) (base : Nat) (h : base ≤ w.heap.size) : OwnLists w base (.slice none 0 0) [] := ⟨World.ownsRow_nil _ _ _ _, h, fun x hx => by cases hx⟩
theorem elem_Slint : ElemOf Tryz.prog 22 37 (.slice none 0 0) 1 24 := ⟨Tryz.underlying22, by kernel_rfl, rfl, by decide, by decide⟩
/-- A row of five numbers, and of two, written out. -/
theorem row_fiveL (w : World) (a b c d e : Int) (n : Nat) (hn : n = w.heap.size) : IsRow (fun x : Int => [.int .i64 x]) 1 (w.alloc (.cells #[.int .i64 a, .int .i64 b, .int .i64 c, .int .i64 d, .int .i64 e] 3)) (.slice (some ⟨n, 0, none⟩) 5 5) [a, b, c, d, e] := by
  subst hn
  refine ⟨some ⟨w.heap.size, 0, none⟩, w.heap.size, 0, 5, rfl, by simp, fun _ => ⟨rfl, lays_new _ _⟩, fun i x h j u hj => ?_⟩
  rcases j with _ | j <;> simp at hj
  subst hj
  rcases i with _ | _ | _ | _ | _ | i <;> simp at h
  all_goals
    subst h
    rw [World.cell?_alloc_new]
    rfl
end Go.Proofs.YtkgchngaganokaaGreatDoor

/-
  Walks of the reference of sheets: the ice book.
-/
namespace Go.Proofs.YtkgchngaganokaaGreatDoor
open Go.RowKit Kr
set_option linter.unusedSimpArgs false
set_option linter.unusedVariables false

theorem rowsPart_len (c : Kr.Cover) (plan : List (List Int)) : ∀ (h i : Nat), (rowsPart c plan h i).length = h * c.beds.length + i
  | 0, 0 => by simp [rowsPart, rowsTo]
  | h + 1, 0 => by rw [rowsPart_zero, rowsTo_succ, rowsPart_len c plan h c.beds.length, Nat.succ_mul]; omega
  | h, i + 1 => by rw [rowsPart_succ, List.length_append, rowsPart_len c plan h i, List.length_singleton]; omega
/-- What a function that makes a sheet gives. -/
def SheetIs (w : World) (kd : Int) (rows : List (List Int)) (err : Int) (e : Ending) (w' : World) : Prop :=
  ∃ v ps, e = .returned (.tuple #[.agg #[.int .u8 kd, v], .int .i64 err]) ∧ ListsAt w' v ps ∧ ps.map Prod.fst = rows ∧ w.Exts w'
theorem lists_none (w : World) : ListsAt w (.slice none 0 0) [] := ⟨IsRow.nil w, fun x hx => by cases hx⟩

end Go.Proofs.YtkgchngaganokaaGreatDoor

/-
  Walks of package sheet: the ice book.
-/
namespace Go.Proofs.YtkgchngaganokaaGreatDoor
open Go.RowKit Kr
set_option linter.unusedSimpArgs false
set_option linter.unusedVariables false

end Go.Proofs.YtkgchngaganokaaGreatDoor

/-
  Walks of packages ice and sheet: Thin, and the ice book.
-/
namespace Go.Proofs.YtkgchngaganokaaGreatDoor
open Go.RowKit Kr
set_option linter.unusedSimpArgs false
set_option linter.unusedVariables false

end Go.Proofs.YtkgchngaganokaaGreatDoor

/-
  Walks of the references of track and of ice: twins.
-/
namespace Go.Proofs.YtkgchngaganokaaGreatDoor
open Go.RowKit Kr
set_option linter.unusedSimpArgs false
set_option linter.unusedVariables false

theorem flat_snd (L : List (List Int × Value)) : (L.flatMap fun x => [x.2]) = L.map Prod.snd := by
  induction L with
  | nil => rfl
  | cons x L ih => rw [List.flatMap_cons, ih]; rfl
theorem snd_set {L : List (List Int × Value)} {k : Nat} {l : List Int} (v : Value) : (L.flatMap fun x => [x.2]).set k v = (L.set k (l, v)).flatMap fun x => [x.2] := by
  rw [flat_snd, flat_snd, List.map_set]

end Go.Proofs.YtkgchngaganokaaGreatDoor
