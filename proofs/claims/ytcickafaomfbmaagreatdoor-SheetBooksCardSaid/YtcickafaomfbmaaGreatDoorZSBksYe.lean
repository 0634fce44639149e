/-
  Walks of package sheet: the reader takes a line in.
-/
import Derived.Test.YtcickafaomfbmaaGreatDoorZSBksYcD
import Derived.Test.YtcickafaomfbmaaGreatDoorZSBksYaZ
import Derived.Test.YtcickafaomfbmaaGreatDoorZSBksIuQ
import Derived.Test.YtcickafaomfbmaaGreatDoorZSBksVnP
import Derived.Deep.DeepCutAuto
import Derived.Deep.CutBlock
import Derived.Lib.ItoaWalk
namespace Go
open Go.RowKit
set_option linter.unusedVariables false
/-- What a step turns that writes its reader's block and rows of its own: nothing else. -/
structure Turns (br base : Nat) (W W' : World) : Prop where
  size : W.heap.size ≤ W'.heap.size
  exts : ∀ u : World, u.Exts W → u.heap.size ≤ br → u.heap.size ≤ base → u.Exts W'
  keep : ∀ (k : Nat) (o : Obj), W.heap[k]? = some o → k ≠ br → (k < base ∨ o.isCells = false) → W'.heap[k]? = some o
theorem Turns.of_exts {br base : Nat} {W W' : World} (h : W.Exts W') : Turns br base W W' :=
  ⟨h.below.size, fun u hu _ _ => hu.trans h, fun k o hk _ _ => (h.below.block k (Array.getElem?_eq_some_iff.1 hk).1).trans hk⟩
theorem Turns.trans {br base : Nat} {A B C : World} (h : Turns br base A B) (k : Turns br base B C) : Turns br base A C :=
  ⟨Nat.le_trans h.size k.size, fun u hu h1 h2 => k.exts u (h.exts u hu h1 h2) h1 h2, fun i o hi h1 h2 => k.keep i o (h.keep i o hi h1 h2) h1 h2⟩
theorem Turns.put {br base : Nat} (W : World) (i : Nat) (v : Value) : Turns br base W (W.setCell ⟨br, i, none⟩ v) :=
  ⟨by simp, fun u hu h1 _ => hu.setCell h1 v, fun k o hk h1 _ => (World.heap_set_other _ _ _ h1).trans hk⟩
theorem Turns.app {br base : Nat} {W w' : World} {v : Value} {e : TypeId} {size n : Nat} {xs : List Value} (hown : W.ownsRow base e size v n xs) (h : Appended W w' v base) : Turns br base W w' :=
  ⟨h.size, fun u hu _ h2 => h.exts u hu h2, fun k o hk _ h2 => (h.block k (Array.getElem?_eq_some_iff.1 hk).1 (fun e => by
    rcases hown.2 with ⟨rfl, _⟩ | ⟨g, cap, cur, rfl, hb, hg, _⟩
    · cases e
    · have : g = k := by simpa [Value.ownBlock] using e.symm
      subst this
      rcases h2 with h2 | h2
      · omega
      · rw [hg] at hk; cases hk; cases h2)).trans hk⟩
end Go
namespace Kr
open Go
/-- The number of a kind's word, as it is looked for. -/
def kindNo (b : List UInt8) : Nat := firstN (fun k => decide (b = wordOf (k : Int))) 1 4
theorem kindNo_spec (b : List UInt8) : (kindNo b = 5 ∧ kindOf b = 0) ∨ (1 ≤ kindNo b ∧ kindNo b ≤ 4 ∧ kindOf b = (kindNo b : Int)) := by
  unfold kindNo
  simp only [firstN, decide_eq_true_eq]
  unfold kindOf
  by_cases h1 : b = wordOf ((1 : Nat) : Int)
  · rw [if_pos h1, if_pos (show b = wordOf 1 from h1)]
    exact .inr ⟨by decide, by decide, rfl⟩
  rw [if_neg h1, if_neg (show ¬ b = wordOf 1 from h1)]
  by_cases h2 : b = wordOf ((1 + 1 : Nat) : Int)
  · rw [if_pos h2, if_pos (show b = wordOf 2 from h2)]
    exact .inr ⟨by decide, by decide, rfl⟩
  rw [if_neg h2, if_neg (show ¬ b = wordOf 2 from h2)]
  by_cases h3 : b = wordOf ((1 + 1 + 1 : Nat) : Int)
  · rw [if_pos h3, if_pos (show b = wordOf 3 from h3)]
    exact .inr ⟨by decide, by decide, rfl⟩
  rw [if_neg h3, if_neg (show ¬ b = wordOf 3 from h3)]
  by_cases h4 : b = wordOf ((1 + 1 + 1 + 1 : Nat) : Int)
  · rw [if_pos h4, if_pos (show b = wordOf 4 from h4)]
    exact .inr ⟨by decide, by decide, rfl⟩
  rw [if_neg h4, if_neg (show ¬ b = wordOf 4 from h4)]
  exact .inl ⟨rfl, rfl⟩
theorem mid_endP {m : Nat} {st : RSt} {b : List UInt8} (h1 : m ≠ 1) (hp : endW.isPrefixOf b = true) : midL m st b = if b.drop 4 = Go.Lib.itoa st.rows.length then some { st with ended := true } else none := by
  unfold midL
  rw [if_neg h1, if_pos hp]
theorem mid_rowP {m : Nat} {st : RSt} {b : List UInt8} (h1 : m ≠ 1) (hp : endW.isPrefixOf b = false) : midL m st b = match rowOf b with
    | none => none
    | some r => if st.rows.length < 100 then some { st with rows := st.rows ++ [r] } else none := by
  unfold midL
  rw [if_neg h1, if_neg (by rw [hp]; decide)]
  cases rowOf b <;> rfl
theorem mapM_snoc {α β : Type} {f : α → Option β} : ∀ {l : List α} {a : α} {ys : List β} {b : β}, l.mapM f = some ys → f a = some b → (l ++ [a]).mapM f = some (ys ++ [b])
  | [], a, ys, b, h, hb => by
    simp at h
    subst h
    simp [hb]
  | x :: l, a, ys, b, h, hb => by
    cases hx : f x with
    | none => rw [mapM_cons_none hx] at h; cases h
    | some y =>
      rw [mapM_cons_some hx] at h
      cases hl : l.mapM f with
      | none => rw [hl] at h; cases h
      | some zs =>
        rw [hl] at h
        injection h with h
        subst h
        rw [List.cons_append, mapM_cons_some hx, mapM_snoc hl hb]
        rfl
theorem mapM_bad {α β : Type} {f : α → Option β} : ∀ {l : List α} {k : Nat} {a : α}, l[k]? = some a → f a = none → l.mapM f = none
  | [], k, a, h, _ => by simp at h
  | x :: l, 0, a, h, ha => by
    simp at h
    subst h
    exact mapM_cons_none ha
  | x :: l, k + 1, a, h, ha => by
    rw [List.getElem?_cons_succ] at h
    cases hx : f x with
    | none => exact mapM_cons_none hx
    | some y => rw [mapM_cons_some hx, mapM_bad h ha]; rfl
theorem rowOf_bad {b : List UInt8} (h : (splitC b).mapM numOf = none) : rowOf b = none := by unfold rowOf; rw [h]
theorem rowOf_many {b : List UInt8} {l : List Nat} (h : (splitC b).mapM numOf = some l) (h5 : ¬ l.length ≤ 5) : rowOf b = none := by unfold rowOf; rw [h]; exact if_neg h5
theorem rowOf_good {b : List UInt8} {l : List Nat} (h : (splitC b).mapM numOf = some l) (h5 : l.length ≤ 5) : rowOf b = some (l.map fun n : Nat => (n : Int)) := by unfold rowOf; rw [h]; exact if_pos h5
theorem mid_one {st : RSt} {b : List UInt8} {f : Nat} (hf : kindNo b = f) : (f = 5 ∧ midL 1 st b = none) ∨ (f ≤ 4 ∧ midL 1 st b = some { st with kd := (f : Int) }) := by
  subst hf
  rcases kindNo_spec b with ⟨h1, h2⟩ | ⟨h1, h2, h3⟩
  · exact .inl ⟨h1, by rw [mid_kind, if_pos h2]⟩
  · exact .inr ⟨h2, by rw [mid_kind, if_neg (by omega), h3]⟩
end Kr
namespace Go.Proofs.YtcickafaomfbmaaGreatDoor
open Go.RowKit Kr
set_option linter.unusedSimpArgs false
set_option linter.unusedVariables false

/-- What the reader leaves of a line. -/
def TakeIs (br base : Nat) (w : World) (n : Nat) (X : Except Int RSt) (e : Ending) (w' : World) : Prop :=
  Turns br base w w' ∧ match X with
    | .ok st => e = .returned (.tuple #[]) ∧ ∃ v rs, LaysAs w' br (.cells [.int .i64 n, .int .u8 st.kd, v, .bool st.ended].toArray 95 (0, 0)) ∧ OwnLists w' base v rs ∧ rs.map Prod.fst = st.rows
    | .error x => e = .panicked [{ v := wrongV n x, recovered := false }]
theorem TakeIs.bad {br base : Nat} {w w' : World} {n : Nat} {X : Except Int RSt} {x : Int} (h : X = .error x) (hT : Turns br base w w') : TakeIs br base w n X (.panicked [{ v := wrongV n x, recovered := false }]) w' := by
  subst h
  exact ⟨hT, rfl⟩

theorem bodyOf_extract (s : ByteArray) : (s.extract 0 (s.size - 4)).data.toList = bodyOf s.data.toList := by
  rw [Lib.extract_data, List.drop_zero]
  unfold bodyOf
  rw [tx_len, Nat.sub_zero]

theorem reader_take_2_any (k : Nat) (hk : k < 5) (b9 b5 : Nat) (B : ByteArray) (W : World) (h9 : LaysAs W b9 (.cells ([.string ⟨#[]⟩, .int .i64 0, .nilFunc, .nilFunc, .string ⟨#[114, 105, 100, 101]⟩, .int .i64 2, .func (.func 59) #[] #[], .func (.func 60) #[] #[], .string ⟨#[115, 116, 97, 114, 116]⟩, .int .i64 2, .func (.func 62) #[] #[], .func (.func 63) #[] #[], .string ⟨#[105, 99, 101]⟩, .int .i64 5, .func (.func 64) #[] #[], .func (.func 65) #[] #[], .string ⟨#[106, 117, 100, 103, 101]⟩, .int .i64 2, .func (.func 66) #[] #[], .func (.func 67) #[] #[]] : List Value).toArray 82 (0, 0))) (h5 : LaysAs W b5 (.cells [.string B].toArray 9 (0, 0))) :
    Calls Tryz.prog 77 #[.int .i64 (k : Int), .pointer (some ⟨b9, 0, none⟩), .pointer (some ⟨b5, 0, none⟩)] W fun e w' => e = .returned (.bool (decide (B.data.toList = wordOf (k : Int)))) ∧ W.Exts w' := by
  rw [← word_eq]
  have c5 := LaysAs.cell h5 0 _ rfl
  have l5 := Lays.of_cell c5
  have l9 : Lays W b9 := Lays.of_cell (LaysAs.cell h9 0 _ rfl)
  obtain rfl | rfl | rfl | rfl | rfl : k = 0 ∨ k = 1 ∨ k = 2 ∨ k = 3 ∨ k = 4 := by omega
  · have c9 : W.cell? ⟨b9, 0, none⟩ = some (.string (wordB 0)) := LaysAs.cell h9 0 _ rfl
    clear h9 h5
    generalize hwd : wordB ((0 : Nat) : Int) = wd at *
    go_enter Tryz.func77, Tryz.ntmps77
    go_wp2_with fail
    refine wp_region_ext (by kernel_rfl) (by kernel_rfl) ?_
    repeat (go_big_quiet_step (fail))
    refine wpQuiet_nil ?_
    rintro _ ⟨X, rfl⟩
    go_wp2_with fail
    go_ret
    exact ⟨rfl, exq⟩
  · have c9 : W.cell? ⟨b9, 4, none⟩ = some (.string (wordB 1)) := LaysAs.cell h9 4 _ rfl
    clear h9 h5
    go_enter Tryz.func77, Tryz.ntmps77
    go_wp2_with fail
    refine wp_region_ext (by kernel_rfl) (by kernel_rfl) ?_
    repeat (go_big_quiet_step (fail))
    refine wpQuiet_nil ?_
    rintro _ ⟨X, rfl⟩
    go_wp2_with fail
    go_ret
    exact ⟨rfl, exq⟩
  · have c9 : W.cell? ⟨b9, 8, none⟩ = some (.string (wordB 2)) := LaysAs.cell h9 8 _ rfl
    clear h9 h5
    go_enter Tryz.func77, Tryz.ntmps77
    go_wp2_with fail
    refine wp_region_ext (by kernel_rfl) (by kernel_rfl) ?_
    repeat (go_big_quiet_step (fail))
    refine wpQuiet_nil ?_
    rintro _ ⟨X, rfl⟩
    go_wp2_with fail
    go_ret
    exact ⟨rfl, exq⟩
  · have c9 : W.cell? ⟨b9, 12, none⟩ = some (.string (wordB 3)) := LaysAs.cell h9 12 _ rfl
    clear h9 h5
    go_enter Tryz.func77, Tryz.ntmps77
    go_wp2_with fail
    refine wp_region_ext (by kernel_rfl) (by kernel_rfl) ?_
    repeat (go_big_quiet_step (fail))
    refine wpQuiet_nil ?_
    rintro _ ⟨X, rfl⟩
    go_wp2_with fail
    go_ret
    exact ⟨rfl, exq⟩
  · have c9 : W.cell? ⟨b9, 16, none⟩ = some (.string (wordB 4)) := LaysAs.cell h9 16 _ rfl
    clear h9 h5
    go_enter Tryz.func77, Tryz.ntmps77
    go_wp2_with fail
    refine wp_region_ext (by kernel_rfl) (by kernel_rfl) ?_
    repeat (go_big_quiet_step (fail))
    refine wpQuiet_nil ?_
    rintro _ ⟨X, rfl⟩
    go_wp2_with fail
    go_ret
    exact ⟨rfl, exq⟩

theorem first_kind_any (b9 b5 : Nat) (B : ByteArray) (W : World) (h9 : LaysAs W b9 (.cells ([.string ⟨#[]⟩, .int .i64 0, .nilFunc, .nilFunc, .string ⟨#[114, 105, 100, 101]⟩, .int .i64 2, .func (.func 59) #[] #[], .func (.func 60) #[] #[], .string ⟨#[115, 116, 97, 114, 116]⟩, .int .i64 2, .func (.func 62) #[] #[], .func (.func 63) #[] #[], .string ⟨#[105, 99, 101]⟩, .int .i64 5, .func (.func 64) #[] #[], .func (.func 65) #[] #[], .string ⟨#[106, 117, 100, 103, 101]⟩, .int .i64 2, .func (.func 66) #[] #[], .func (.func 67) #[] #[]] : List Value).toArray 82 (0, 0))) (h5 : LaysAs W b5 (.cells [.string B].toArray 9 (0, 0))) :
    Calls Tryz.prog 76 #[.int .i64 1, .int .i64 5, .func (.func 77) #[] #[.pointer (some ⟨b9, 0, none⟩), .pointer (some ⟨b5, 0, none⟩)]] W fun e w' => e = .returned (.int .i64 (kindNo B.data.toList : Nat)) ∧ W.Exts w' := by
  refine (sheet_first_any (fun k => decide (B.data.toList = wordOf (k : Int))) 1 5 77 #[.pointer (some ⟨b9, 0, none⟩), .pointer (some ⟨b5, 0, none⟩)] W (fun _ W' => W.Exts W') (fun _ W' => W.Exts W') (by decide) (by decide) (fun _ _ => by kernel_rfl) (fun k h1 h2 W' hE => ?_) (World.Exts.refl W)).mono ?_
  · refine (show Calls Tryz.prog 77 #[.int .i64 (k : Int), .pointer (some ⟨b9, 0, none⟩), .pointer (some ⟨b5, 0, none⟩)] W' _ from (reader_take_2_any k h2 b9 b5 B W' (h9.exts hE) (h5.exts hE)).mono ?_)
    rintro e w' ⟨rfl, hE2⟩
    exact ⟨rfl, fun _ => hE.trans hE2, fun _ => hE.trans hE2⟩
  · rintro e w' ⟨rfl, h1, h2⟩
    refine ⟨rfl, ?_⟩
    rcases Nat.lt_or_ge (firstN (fun k => decide (B.data.toList = wordOf (k : Int))) 1 (5 - 1)) 5 with h | h
    · exact h1 h
    · exact h2 h

set_option maxRecDepth 4000 in
set_option maxHeartbeats 16000000 in
theorem reader_take_any (s : ByteArray) (br base n kn : Nat) (ended : Bool) (v : Value) (rs : List (List Int × Value)) (w0 w : World) (hw : LibAt w0) (hE0 : w0.Exts w) (hbr : w0.heap.size ≤ br) (hs : s.size ≤ 1500) (hn : 1 ≤ n ∧ n ≤ 900) (hkn : kn ≤ 4) (hrl : rs.length ≤ 100) (hbb : br < base)
    (hL : LaysAs w br (.cells [.int .i64 n, .int .u8 kn, v, .bool ended].toArray 95 (0, 0))) (hO : OwnLists w base v rs) :
    Calls Tryz.prog 35 #[.pointer (some ⟨br, 0, none⟩), .string s] w (TakeIs br base w n (takeL n ⟨kn, rs.map Prod.fst, ended⟩ s.data.toList)) := by
  obtain ⟨Rz, hX⟩ : ∃ Rz, takeL n ⟨kn, rs.map Prod.fst, ended⟩ s.data.toList = Rz := ⟨_, rfl⟩
  rw [hX]
  obtain ⟨K, hK⟩ : ∃ K, s.size - 4 = K := ⟨_, rfl⟩
  have hKi : max 0 ((s.size : Int) - 4) = (K : Int) := by omega
  have hKs : K ≤ s.size := by omega
  have hbd := bodyOf_extract s
  rw [hK] at hbd
  have hcz : (s.extract K s.size).size = s.size - K := by rw [ByteArray.size_extract, Nat.min_self]
  have hcd : (s.extract K s.size).data.toList = s.data.toList.drop K := by
    rw [Lib.extract_data, List.take_of_length_le (by rw [List.length_drop, tx_len]; exact Nat.le_refl _)]
  have c0 := LaysAs.cell hL 0 _ rfl
  have c1 := LaysAs.cell hL 1 _ rfl
  have c2 := LaysAs.cell hL 2 _ rfl
  have c3 := LaysAs.cell hL 3 _ rfl
  have lb := Lays.of_cell c0
  obtain ⟨B, hB⟩ : ∃ B, s.extract 0 K = B := ⟨_, rfl⟩
  obtain ⟨C, hC⟩ : ∃ C, s.extract K s.size = C := ⟨_, rfl⟩
  rw [hB] at hbd
  rw [hC] at hcz hcd
  have hno := fun (x : Int) (W : World) (hE : w.Exts W) => place_must_no br (n : Int) x W (hE.cell c0)
  have hdig := fun (W : World) => ContainsFunc_digits (C.extract 1 C.size) W
  have HNO := Lib.hid hno
  clear hno
  have HBD := Lib.hid hbd
  clear hbd
  have HCD := Lib.hid hcd
  clear hcd
  have HW := Lib.hid hw
  clear hw
  have HL := Lib.hid hL
  clear hL
  have HO := Lib.hid hO
  clear hO
  have HX := Lib.hid hX
  clear hX
  have HDIG := Lib.hid hdig
  clear hdig
  have hform : ∀ (h4 : 4 ≤ s.size) (h0 : 0 < C.size), formB s.data.toList = (decide ((C[0]'h0 : UInt8) = 32) && (C.extract 1 C.size).data.toList.all digitB) := fun h4 h0 => by
    have g0 := tx_get (s := C) (k := 0) h0
    rw [HCD.out, List.getElem?_drop, Nat.add_zero] at g0
    have hx1 : (C.extract 1 C.size).data.toList = s.data.toList.drop (s.size - 3) := by
      rw [Lib.extract_data, List.take_of_length_le (by rw [List.length_drop, tx_len]; exact Nat.le_refl _), HCD.out, List.drop_drop]
      congr 1
      omega
    unfold formB
    rw [tx_len, decide_eq_true h4, Bool.true_and, hx1, List.getD_eq_getElem?_getD, show s.size - 4 = K from hK, g0]
    rfl
  obtain ⟨DG, hDG⟩ : ∃ d, (C.extract 1 C.size).data.toList.all digitB = d := ⟨_, rfl⟩
  rw [hDG] at hform
  have hdig2 := HDIG.out
  rw [hDG] at hdig2
  have HDIG2 := Lib.hid hdig2
  clear hdig2
  have hcz4 : 4 ≤ s.size → C.size = 4 := fun h => by omega
  have hczs : s.size < 4 → C.size = s.size := fun h => by omega
  have HCZ4 := Lib.hid hcz4
  clear hcz4
  have HCZS := Lib.hid hczs
  clear hczs
  clear HDIG hDG hcz
  go_enter Tryz.func35, Tryz.ntmps35
  go_wp2_with fail
  go_big_region
  go_wp2_with fail
  cases ended
  rotate_left
  · have hf : Rz = .error 111 := HX.out.symm.trans (take_ended rfl)
    have HF := Lib.hid hf
    clear hf
    clear hform
    refine wp_region_ext_tail 24 (by kernel_rfl) (by kernel_rfl) ?_
    simp only [List.take_succ_cons, List.take_zero, List.drop_succ_cons, List.drop_zero]
    repeat (go_big_quiet_step (fail))
    refine wpQuiet_nil ?_
    rintro _ ⟨X, rfl⟩
    go_wp2_with (go_at_call 36; refine (HNO.out _ _ exq).mono ?_; rintro e w' ⟨rfl, X3, rfl⟩)
    exact ⟨rfl, TakeIs.bad HF.out (.of_exts exq)⟩
  rcases Nat.lt_or_ge s.size 4 with h4 | h4
  · have hf : Rz = .error 111 := HX.out.symm.trans (take_form (formB_short (by rw [tx_len]; exact h4)))
    have hcs := HCZS.out h4
    have hc4 : ((C.size : Int) == 4) = false := by rw [beq_eq_false_iff_ne]; omega
    have hc5 : ¬ (C.size : Int) = 4 := by omega
    clear hcs
    have HF := Lib.hid hf
    clear hf
    clear hform
    refine wp_region_ext_tail 24 (by kernel_rfl) (by kernel_rfl) ?_
    simp only [List.take_succ_cons, List.take_zero, List.drop_succ_cons, List.drop_zero]
    repeat (go_big_quiet_step (fail))
    refine wpQuiet_nil ?_
    rintro _ ⟨X, rfl⟩
    go_wp2_with (go_at_call 36; refine (HNO.out _ _ exq).mono ?_; rintro e w' ⟨rfl, X3, rfl⟩)
    exact ⟨rfl, TakeIs.bad HF.out (.of_exts exq)⟩
  have hc0 : C.size = 4 := HCZ4.out h4
  have hf0 := hform h4 (by omega)
  have hc4 : ((C.size : Int) == 4) = true := by rw [beq_iff_eq]; omega
  have hc5 : (C.size : Int) = 4 := by omega
  have hc6 : (0 : Int) < (C.size : Int) := by omega
  have hlt0 : 0 < C.size := by omega
  obtain ⟨y0, e0⟩ : ∃ y, C[0]'hlt0 = y := ⟨_, rfl⟩
  rw [e0] at hf0
  have HC0 := Lib.hid hc0
  clear hc0
  clear hform
  by_cases hy : y0 = 32
  rotate_left
  · have hf : Rz = .error 111 := HX.out.symm.trans (take_form (by rw [hf0, decide_eq_false hy]; rfl))
    have hy1 : ¬ ((y0.toNat : Nat) : Int) = 32 := fun e => hy (UInt8.toNat.inj (by have : (32 : UInt8).toNat = 32 := rfl; omega))
    have hy2 : (((y0.toNat : Nat) : Int) == 32) = false := by rw [beq_eq_false_iff_ne]; exact hy1
    have HF := Lib.hid hf
    clear hf
    clear hf0 hy
    refine wp_region_ext_tail 24 (by kernel_rfl) (by kernel_rfl) ?_
    simp only [List.take_succ_cons, List.take_zero, List.drop_succ_cons, List.drop_zero]
    repeat (go_big_quiet_step (fail))
    refine wpQuiet_nil ?_
    rintro _ ⟨X, rfl⟩
    go_wp2_with (go_at_call 36; refine (HNO.out _ _ exq).mono ?_; rintro e w' ⟨rfl, X3, rfl⟩)
    exact ⟨rfl, TakeIs.bad HF.out (.of_exts exq)⟩
  subst hy
  have hy1 : (((32 : UInt8).toNat : Nat) : Int) = 32 := rfl
  cases DG
  · have hf : Rz = .error 111 := HX.out.symm.trans (take_form (by rw [hf0]; rfl))
    have HF := Lib.hid hf
    clear hf
    clear hf0
    refine wp_region_ext_tail 24 (by kernel_rfl) (by kernel_rfl) ?_
    simp only [List.take_succ_cons, List.take_zero, List.drop_succ_cons, List.drop_zero]
    repeat (go_big_quiet_step ((go_at_call 73; exact Calls.in_ext (HDIG2.out _))))
    refine wpQuiet_nil ?_
    rintro _ ⟨X, rfl⟩
    go_wp2_with (go_at_call 36; refine (HNO.out _ _ exq).mono ?_; rintro e w' ⟨rfl, X3, rfl⟩)
    exact ⟨rfl, TakeIs.bad HF.out (.of_exts exq)⟩
  have hfm : formB s.data.toList = true := hf0.trans rfl
  have HFM := Lib.hid hfm
  clear hfm
  clear hf0
  refine wp_region_ext_tail 24 (by kernel_rfl) (by kernel_rfl) ?_
  simp only [List.take_succ_cons, List.take_zero, List.drop_succ_cons, List.drop_zero]
  repeat (go_big_quiet_step ((go_at_call 73; exact Calls.in_ext (HDIG2.out _))))
  refine wpQuiet_nil ?_
  rintro _ ⟨X, rfl⟩
  have hmidn := fun (h : midL n ⟨kn, rs.map Prod.fst, false⟩ (bodyOf s.data.toList) = none) => HX.out.symm.trans (take_mid rfl HFM.out h)
  have hmids := fun (st : RSt) (h : midL n ⟨kn, rs.map Prod.fst, false⟩ (bodyOf s.data.toList) = some st) (q : Bool) (hq : sealB n s.data.toList = q) => (show Rz = if q then .ok st else .error 112 from by
    cases q
    · exact HX.out.symm.trans (take_seal rfl HFM.out h hq)
    · exact HX.out.symm.trans (take_ok rfl HFM.out h hq))
  have hiff := (sealB_iff (m := n) HFM.out)
  rw [← HBD.out] at hmidn hmids hiff
  have hBz : B.size ≤ 1500 := by rw [← tx_len, HBD.out]; unfold bodyOf; rw [List.length_take, tx_len]; omega
  have hcutp := fun (W : World) => CutPrefix_any B W
  have HMIDN := Lib.hid hmidn
  clear hmidn
  have HMIDS := Lib.hid hmids
  clear hmids
  have HIFF := Lib.hid hiff
  clear hiff
  have HBZ := Lib.hid hBz
  clear hBz
  have HCUTP := Lib.hid hcutp
  clear hcutp
  clear HX HFM HBD HCD HCZ4 HCZS HDIG2 hc4 hc5 hc6 e0 hC hB hy1 h4 HC0 hKi hKs hK
  go_upto_block 0 with (first
    | (go_at_call 36; refine (place_must_ok _ _ _).mono ?_; rintro e w' ⟨rfl, X3, rfl⟩)
    | (go_at_call 75; refine (HCUTP.out _).mono ?_; rintro e w' ⟨many, rfl, hmany, X4, rfl⟩; have HMANY := Lib.hid hmany; clear hmany))
  go_cut [8, 9, 10, 12, 95, 121] (fun _ _ _ _ _ _ wx => ∃ (st : RSt) (v' : Value) (rs' : List (List Int × Value)), Hid (midL n ⟨kn, rs.map Prod.fst, false⟩ B.data.toList = some st) ∧ Hid (Turns br base w wx) ∧ Hid (LaysAs wx br (.cells [.int .i64 n, .int .u8 st.kd, v', .bool st.ended].toArray 95 (0, 0))) ∧ Hid (OwnLists wx base v' rs') ∧ Hid (rs'.map Prod.fst = st.rows) ∧ Hid (LaysAs wx w.heap.size (.cells [.string B].toArray 9 (0, 0))))
  case first =>
    have hmf := fun (W : World) => place_must_ok (.pointer (some ⟨br, 0, none⟩)) 111 W
    have f1 := laysAs_frz (i := 1) HL.out
    have f2 := laysAs_frz (i := 2) HL.out
    have f3 := laysAs_frz (i := 3) HL.out
    have hbw : base ≤ w.heap.size := HO.out.base_le
    have hne5 : br ≠ w.heap.size := by omega
    by_cases hn1 : n = 1
    · subst hn1
      obtain ⟨f, hf⟩ : ∃ f, kindNo B.data.toList = f := ⟨_, rfl⟩
      have hfirst := fun (W : World) (b9 : Nat) (h9 : LaysAs W b9 (.cells ([.string ⟨#[]⟩, .int .i64 0, .nilFunc, .nilFunc, .string ⟨#[114, 105, 100, 101]⟩, .int .i64 2, .func (.func 59) #[] #[], .func (.func 60) #[] #[], .string ⟨#[115, 116, 97, 114, 116]⟩, .int .i64 2, .func (.func 62) #[] #[], .func (.func 63) #[] #[], .string ⟨#[105, 99, 101]⟩, .int .i64 5, .func (.func 64) #[] #[], .func (.func 65) #[] #[], .string ⟨#[106, 117, 100, 103, 101]⟩, .int .i64 2, .func (.func 66) #[] #[], .func (.func 67) #[] #[]] : List Value).toArray 82 (0, 0))) (h5 : LaysAs W w.heap.size (.cells [.string B].toArray 9 (0, 0))) => first_kind_any b9 w.heap.size B W h9 h5
      rw [hf] at hfirst
      have hmid := mid_one (st := ⟨kn, rs.map Prod.fst, false⟩) hf
      have HFIRST := Lib.hid hfirst
      clear hfirst
      rcases hmid with ⟨rfl, hmid⟩ | ⟨hf4, hmid⟩
      · have hbad := HMIDN.out hmid
        have HBAD := Lib.hid hbad
        clear hbad
        clear hmid hf
        go_upto_region 15 with (first
          | (go_at_call 29; refine (sheet_kinds_any _).mono ?_; rintro e w' ⟨rfl, X5, rfl⟩)
          | ((with_reducible refine wpList_store_new (t := 82) (cells := #[.string ⟨#[]⟩, .int .i64 0, .nilFunc, .nilFunc, .string ⟨#[114, 105, 100, 101]⟩, .int .i64 2, .func (.func 59) #[] #[], .func (.func 60) #[] #[], .string ⟨#[115, 116, 97, 114, 116]⟩, .int .i64 2, .func (.func 62) #[] #[], .func (.func 63) #[] #[], .string ⟨#[105, 99, 101]⟩, .int .i64 5, .func (.func 64) #[] #[], .func (.func 65) #[] #[], .string ⟨#[106, 117, 100, 103, 101]⟩, .int .i64 2, .func (.func 66) #[] #[], .func (.func 67) #[] #[]]) ?_ ?_ ?_ ?_ ?_ ?_); (· first | rfl | (simp [go_sem]; done)); (· rfl); (· kernel_rfl); (· rfl); (· simp [Value.oneCell']))
          | (go_at_call 76; refine (HFIRST.out _ _ (laysAs_size _ _ rfl) ((laysAs_size _ _ rfl).exts exq)).mono ?_; rintro e w' ⟨rfl, X6, rfl⟩))
        go_name_world W1 hW1
        obtain ⟨V1, hV1, hEB⟩ : ∃ V, World.setCell V ⟨br, 1, none⟩ (.int .u8 5) = W1 ∧ (w.alloc (.cells #[.string B] 9)).Exts V := ⟨_, hW1, exq⟩
        clear hW1
        have hEV : w.Exts V1 := ((World.Exts.refl w).alloc _).trans hEB
        have hL1 : LaysAs W1 br (.cells [.int .i64 1, .int .u8 5, v, .bool false].toArray 95 (0, 0)) := by rw [← hV1]; exact LaysAs.set (cs := [.int .i64 1, .int .u8 kn, v, .bool false]) (HL.out.exts hEV) (i := 1) (.int .u8 5)
        have hT1 : Turns br base w W1 := by rw [← hV1]; exact (Turns.of_exts hEV).trans (Turns.put _ _ _)
        have hO1 : OwnLists W1 base v rs := by rw [← hV1]; exact (HO.out.exts hEV).put hbb _
        have hB1 : LaysAs W1 w.heap.size (.cells [.string B].toArray 9 (0, 0)) := by rw [← hV1]; exact laysAs_else ((laysAs_size w _ rfl).exts hEB) hne5 _
        clear hV1 hEB hEV
        have d0 := LaysAs.cell hL1 0 _ rfl
        have d1 := LaysAs.cell hL1 1 _ rfl
        have d2 := LaysAs.cell hL1 2 _ rfl
        have d3 := LaysAs.cell hL1 3 _ rfl
        have ld := Lays.of_cell d0
        have HL1 := Lib.hid hL1
        clear hL1
        have HT1 := Lib.hid hT1
        clear hT1
        have HO1 := Lib.hid hO1
        clear hO1
        have HB1 := Lib.hid hB1
        clear hB1
        refine wp_region_ext_tail 10 (by kernel_rfl) (by kernel_rfl) ?_
        simp only [List.take_succ_cons, List.take_zero, List.drop_succ_cons, List.drop_zero]
        repeat (go_big_quiet_step (fail))
        refine wpQuiet_nil ?_
        rintro _ ⟨X, rfl⟩
        go_wp2_with (go_at_call 36; refine (place_must_no br 1 111 _ (World.Exts.cell exq d0)).mono ?_; rintro e w' ⟨rfl, X7, rfl⟩)
        exact ⟨rfl, TakeIs.bad HBAD.out (HT1.out.trans (.of_exts exq))⟩
      · have hfi : (f : Int) < 5 := by omega
        have hf8 : (f : Int) < 256 := by omega
        have HMID := Lib.hid hmid
        clear hmid
        clear hf
        go_upto_region 15 with (first
          | (go_at_call 29; refine (sheet_kinds_any _).mono ?_; rintro e w' ⟨rfl, X5, rfl⟩)
          | ((with_reducible refine wpList_store_new (t := 82) (cells := #[.string ⟨#[]⟩, .int .i64 0, .nilFunc, .nilFunc, .string ⟨#[114, 105, 100, 101]⟩, .int .i64 2, .func (.func 59) #[] #[], .func (.func 60) #[] #[], .string ⟨#[115, 116, 97, 114, 116]⟩, .int .i64 2, .func (.func 62) #[] #[], .func (.func 63) #[] #[], .string ⟨#[105, 99, 101]⟩, .int .i64 5, .func (.func 64) #[] #[], .func (.func 65) #[] #[], .string ⟨#[106, 117, 100, 103, 101]⟩, .int .i64 2, .func (.func 66) #[] #[], .func (.func 67) #[] #[]]) ?_ ?_ ?_ ?_ ?_ ?_); (· first | rfl | (simp [go_sem]; done)); (· rfl); (· kernel_rfl); (· rfl); (· simp [Value.oneCell']))
          | (go_at_call 76; refine (HFIRST.out _ _ (laysAs_size _ _ rfl) ((laysAs_size _ _ rfl).exts exq)).mono ?_; rintro e w' ⟨rfl, X6, rfl⟩))
        go_name_world W1 hW1
        obtain ⟨V1, hV1, hEB⟩ : ∃ V, World.setCell V ⟨br, 1, none⟩ (.int .u8 f) = W1 ∧ (w.alloc (.cells #[.string B] 9)).Exts V := ⟨_, hW1, exq⟩
        clear hW1
        have hEV : w.Exts V1 := ((World.Exts.refl w).alloc _).trans hEB
        have hL1 : LaysAs W1 br (.cells [.int .i64 1, .int .u8 f, v, .bool false].toArray 95 (0, 0)) := by rw [← hV1]; exact LaysAs.set (cs := [.int .i64 1, .int .u8 kn, v, .bool false]) (HL.out.exts hEV) (i := 1) (.int .u8 f)
        have hT1 : Turns br base w W1 := by rw [← hV1]; exact (Turns.of_exts hEV).trans (Turns.put _ _ _)
        have hO1 : OwnLists W1 base v rs := by rw [← hV1]; exact (HO.out.exts hEV).put hbb _
        have hB1 : LaysAs W1 w.heap.size (.cells [.string B].toArray 9 (0, 0)) := by rw [← hV1]; exact laysAs_else ((laysAs_size w _ rfl).exts hEB) hne5 _
        clear hV1 hEB hEV
        have d0 := LaysAs.cell hL1 0 _ rfl
        have d1 := LaysAs.cell hL1 1 _ rfl
        have d2 := LaysAs.cell hL1 2 _ rfl
        have d3 := LaysAs.cell hL1 3 _ rfl
        have ld := Lays.of_cell d0
        have HL1 := Lib.hid hL1
        clear hL1
        have HT1 := Lib.hid hT1
        clear hT1
        have HO1 := Lib.hid hO1
        clear hO1
        have HB1 := Lib.hid hB1
        clear hB1
        refine wp_region_ext_tail 10 (by kernel_rfl) (by kernel_rfl) ?_
        simp only [List.take_succ_cons, List.take_zero, List.drop_succ_cons, List.drop_zero]
        repeat (go_big_quiet_step (fail))
        refine wpQuiet_nil ?_
        rintro _ ⟨X, rfl⟩
        go_wp2_with (go_at_call 36; refine (place_must_ok _ _ _).mono ?_; rintro e w' ⟨rfl, X7, rfl⟩)
        go_meet
        exact ⟨_, v, rs, HMID, Lib.hid (HT1.out.trans (.of_exts exq)), Lib.hid (HL1.out.exts exq), Lib.hid (HO1.out.exts exq), Lib.hid rfl, Lib.hid (HB1.out.exts exq)⟩
    · have hn2 : ((n : Int) == 1) = false := by rw [beq_eq_false_iff_ne]; omega
      have hn3 : ¬ (n : Int) = 1 := by omega
      obtain ⟨nr, hnr⟩ : ∃ t, rs.length = t := ⟨_, rfl⟩
      have hown := HO.out.own
      rw [hnr] at hown hrl
      obtain ⟨qv, cv, hqv⟩ := owns_len hown
      subst hqv
      obtain ⟨pb, hend⟩ : ∃ b, endW.isPrefixOf B.data.toList = b := ⟨_, rfl⟩
      have HOWN := Lib.hid hown
      clear hown
      rw [hend]
      have hmid := mid_rowP (st := ⟨kn, rs.map Prod.fst, false⟩) (b := B.data.toList) hn1
      have hmidE := mid_endP (st := ⟨kn, rs.map Prod.fst, false⟩) (b := B.data.toList) hn1
      rw [hend] at hmid hmidE
      have hmany := HMANY.out
      rw [hend] at hmany
      simp only [List.length_map] at hmid hmidE
      rw [hnr] at hmid hmidE
      clear HMANY hn1
      cases pb
      rotate_left
      · have hmid2 := hmidE rfl
        have hmany2 := hmany rfl
        obtain ⟨tb, htb, hit⟩ : ∃ tb : ByteArray, tb.data.toList = Lib.itoa (nr : Int) ∧ ∀ W : World, w.Exts W → Calls Tryz.prog 31 #[.int .i64 (nr : Int)] W fun e w' => e = .returned (.string tb) ∧ W.Exts w' := by
          refine ⟨⟨(Lib.itoa (nr : Int)).toArray⟩, rfl, fun W hE => (Itoa_any (nr : Int) (by omega) (by omega) W (HW.out.mono (hE0.trans hE))).mono ?_⟩
          rintro e w' ⟨r, rfl, hr, hE⟩
          obtain rfl : r = ⟨(Lib.itoa (nr : Int)).toArray⟩ := tx_inj hr
          exact ⟨rfl, hE⟩
        rw [← htb, ← hmany2] at hmid2
        have HIT := Lib.hid hit
        clear hit
        clear hmid hmidE hmany hmany2 htb hend
        by_cases heq : many = tb
        rotate_left
        · have hbad := HMIDN.out (hmid2.trans (if_neg (fun e => heq (tx_inj e))))
          have hne : (many.toList == tb.toList) = false := by
            rw [beq_eq_false_iff_ne, Lib.toList_data, Lib.toList_data]
            exact fun e => heq (tx_inj e)
          have HBAD := Lib.hid hbad
          clear hbad
          clear hmid2 heq
          go_wp2_with fail
          refine wp_region_ext_tail 12 (by kernel_rfl) (by kernel_rfl) ?_
          simp only [List.take_succ_cons, List.take_zero, List.drop_succ_cons, List.drop_zero]
          repeat (go_big_quiet_step ((go_at_call 31; exact Calls.in_ext (HIT.out _ exq))))
          refine wpQuiet_nil ?_
          rintro _ ⟨X, rfl⟩
          go_wp2_with (go_at_call 36; refine (HNO.out _ _ exq).mono ?_; rintro e w' ⟨rfl, X7, rfl⟩)
          exact ⟨rfl, TakeIs.bad HBAD.out (.of_exts exq)⟩
        · have hgood := hmid2.trans (if_pos (by rw [heq]))
          have HMID := Lib.hid hgood
          clear hgood
          clear hmid2
          subst heq
          go_wp2_with fail
          refine wp_region_ext_tail 12 (by kernel_rfl) (by kernel_rfl) ?_
          simp only [List.take_succ_cons, List.take_zero, List.drop_succ_cons, List.drop_zero]
          repeat (go_big_quiet_step ((go_at_call 31; exact Calls.in_ext (HIT.out _ exq))))
          refine wpQuiet_nil ?_
          rintro _ ⟨X, rfl⟩
          go_wp2_with (go_at_call 36; refine (place_must_ok _ _ _).mono ?_; rintro e w' ⟨rfl, X7, rfl⟩)
          go_meet
          exact ⟨_, _, rs, HMID, Lib.hid ((Turns.of_exts exq).trans (Turns.put _ _ _)), Lib.hid (LaysAs.set (cs := [.int .i64 n, .int .u8 kn, .slice qv nr cv, .bool false]) (HL.out.exts exq) (i := 3) _), Lib.hid ((HO.out.exts exq).put hbb _), Lib.hid rfl, Lib.hid (laysAs_else ((laysAs_size w _ rfl).exts exq) hne5 _)⟩
      · have hmid2 := hmid rfl
        have HMID2 := Lib.hid hmid2
        clear hmid2
        clear hmid hmidE hmany hend
        have hsp := fun (W : World) (hE : w.Exts W) => Split_any B W (by have := HBZ.out; omega) (HW.out.mono (hE0.trans hE))
        have hnum := fun (x : ByteArray) (W : World) (hE : w.Exts W) (hx : x.size ≤ 2000) => reader_number_any br n x W (HW.out.mono (hE0.trans hE)) hx (hE.cell c0)
        have hspl := splitC_len B.data.toList
        rw [tx_len] at hspl
        have HSP := Lib.hid hsp
        clear hsp
        have HNUM := Lib.hid hnum
        clear hnum
        have HSPL := Lib.hid hspl
        clear hspl
        go_wp2_with (go_at_call 78; refine (HSP.out _ exq).mono ?_; rintro e w' ⟨p, xs, c, rfl, hxr, hxs, X5, rfl⟩; obtain ⟨p', bx, ox, cx, hpe, hmx, hpx, hcx⟩ := hxr.ex; injection hpe with he1 he2 he3; subst he1 he3; clear he2 hxr hmx; have HXS := Lib.hid hxs; clear hxs; have HPX := Lib.hid hpx; clear hpx; have HCX := Lib.hid hcx; clear hcx)
        go_name_world V hV
        have hEB : (w.alloc (.cells #[.string B] 9)).Exts V := by
          rw [← hV]
          exact (show (w.alloc (.cells #[.string B] 9)).Exts (World.ext (World.ext (World.ext (World.ext _ X) X3) X4) X5) from exq)
        have hEV : w.Exts V := ((World.Exts.refl w).alloc _).trans hEB
        have hbV : base ≤ V.heap.size := Nat.le_trans hbw hEV.size
        rw [hV] at HPX HCX
        clear hV
        have hxl : xs.length = (splitC B.data.toList).length := by rw [← HXS.out, List.length_map]
        have hxn : xs.length ≤ 1501 := by rw [hxl]; have h1 := HSPL.out.1; have h2 := HBZ.out; omega
        have HEB := Lib.hid hEB
        clear hEB
        have HEV := Lib.hid hEV
        clear hEV
        clear hxl
        go_loopw [10, 12, 56] (fun row _ i wr => ∃ (k : Nat) (done : List Nat), k ≤ xs.length ∧ i = .int .i64 k ∧ Hid (((xs.take k).map (·.data.toList)).mapM numOf = some done) ∧ Hid (wr.ownsRow V.heap.size 3 1 row done.length (done.flatMap fun m : Nat => [.int .i64 (m : Int)])) ∧ V.Exts wr) (fun _ _ i _ => xs.length - (intOf i).toNat)
        case atStart => exact ⟨0, [], Nat.zero_le _, rfl, Lib.hid rfl, Lib.hid (World.ownsRow_nil _ _ _ _), World.Exts.refl _⟩
        case round =>
          obtain ⟨k, done, hk, rfl, HD, HR, X8, rfl⟩ := hrel
          have hdl := mapM_len HD.out
          rw [List.length_map, List.length_take, Nat.min_eq_left hk] at hdl
          have hown2 := HR.out
          rw [hdl] at hown2
          obtain ⟨qr, cr, hqr⟩ := owns_len hown2
          subst hqr
          have HR2 := Lib.hid hown2
          clear hown2
          have HDL := Lib.hid hdl
          clear hdl
          clear HR
          rcases Nat.lt_or_ge k xs.length with hlt | hge
          · obtain ⟨rfl, hlx⟩ := HPX.out (by omega)
            obtain ⟨x, hx⟩ := some_of_lt hlt
            have e0 := HCX.out k x hx 0 _ rfl
            simp only [Nat.mul_one, Nat.add_zero] at e0
            have hxm : x.data.toList ∈ splitC B.data.toList := by rw [← HXS.out]; exact List.mem_map_of_mem (List.mem_of_getElem? hx)
            have hxz : x.size ≤ 2000 := by rw [← tx_len]; have h1 := HSPL.out.2 _ hxm; have h2 := HBZ.out; omega
            have hcall := fun (W : World) (hE : V.Exts W) => HNUM.out x W (HEV.out.trans hE) hxz
            have w1 : (k : Int) < (xs.length : Int) := by omega
            have hget : (splitC B.data.toList)[k]? = some x.data.toList := by rw [← HXS.out, List.getElem?_map, hx]; rfl
            have hsn : (xs.take (k + 1)).map (fun y : ByteArray => y.data.toList) = (xs.take k).map (fun y : ByteArray => y.data.toList) ++ [x.data.toList] := by rw [take_snoc hx, List.map_append]; rfl
            have HSN := Lib.hid hsn
            clear hsn
            clear hx hxm
            obtain ⟨o, ho⟩ : ∃ o, numOf x.data.toList = o := ⟨_, rfl⟩
            rw [ho] at hcall
            cases o with
            | none =>
              have hbad := HMIDN.out (HMID2.out.trans (by rw [rowOf_bad (mapM_bad hget ho)]))
              have HBAD := Lib.hid hbad
              clear hbad
              have HCALL := Lib.hid hcall
              clear hcall
              clear ho hget
              go_wp2_with (go_at_call 79; refine (HCALL.out _ exq).mono ?_; rintro e w' ⟨⟨X9, rfl⟩, rfl⟩)
              exact ⟨rfl, TakeIs.bad HBAD.out (.of_exts (HEV.out.trans exq))⟩
            | some m =>
              have hnx := mapM_snoc HD.out ho
              have HNX := Lib.hid hnx
              clear hnx
              have HCALL := Lib.hid hcall
              clear hcall
              clear ho hget
              go_wp2_with (first
                | (go_at_call 79; refine (HCALL.out _ exq).mono ?_; rintro e w' ⟨⟨X9, rfl⟩, rfl⟩)
                | (at_builtin; refine wpList_append1W (.tmp 60) (.tmp 64) elem_int rfl rfl rfl (ownsRow_exts HR2.out exq) [.int .i64 (m : Int)] _ (by simp) rfl rfl ?j1 ?j2 ?j4 ?j3 ?_))
              case j1 => intro u hu; simp at hu; subst hu; rfl
              case j2 => omega
              try (case j4 => decide)
              case j3 => exact World.Exts.size exq
              intro v' w' hown' happ
              have hE8 := happ.exts V exq (Nat.le_refl _)
              have HO3 := Lib.hid hown'
              clear hown'
              have HE8 := Lib.hid hE8
              clear hE8
              clear happ
              go_wp2_with fail
              go_roundw
              case rel => exact ⟨k + 1, done ++ [m], by omega, by go_num, Lib.hid (by rw [HSN.out]; exact HNX.out), Lib.hid (by rw [List.length_append, HDL.out, List.flatMap_append]; exact HO3.out), HE8.out⟩
              case measure => simp [intOf]; omega
          · have hkn : k = xs.length := by omega
            have w1 : ¬ (k : Int) < (xs.length : Int) := by omega
            have hall : (splitC B.data.toList).mapM numOf = some done := by rw [← HXS.out]; have := HD.out; rw [hkn, List.take_length] at this; exact this
            have v0 := HEV.out.cell c0
            have v1 := HEV.out.cell c1
            have v2 := HEV.out.cell c2
            have v3 := HEV.out.cell c3
            have lv := Lays.of_cell v0
            have hk2 : k ≤ 1501 := by omega
            clear HD hkn
            rcases Nat.lt_or_ge 5 k with h5 | h5
            · have hbad := HMIDN.out (HMID2.out.trans (by rw [rowOf_many hall (by rw [HDL.out]; omega)]))
              have h5i : ¬ (k : Int) ≤ 5 := by omega
              have h5d : decide ((k : Int) ≤ 5) = false := decide_eq_false h5i
              have HBAD := Lib.hid hbad
              clear hbad
              clear hall h5
              go_wp2_with fail
              refine wp_region_ext_tail 15 (by kernel_rfl) (by kernel_rfl) ?_
              simp only [List.take_succ_cons, List.take_zero, List.drop_succ_cons, List.drop_zero]
              repeat (go_big_quiet_step (fail))
              refine wpQuiet_nil ?_
              rintro _ ⟨X, rfl⟩
              go_wp2_with (go_at_call 36; refine (place_must_no br (n : Int) 111 _ (World.Exts.cell exq v0)).mono ?_; rintro e w' ⟨rfl, X9, rfl⟩)
              exact ⟨rfl, TakeIs.bad HBAD.out (.of_exts (HEV.out.trans exq))⟩
            have h5i : (k : Int) ≤ 5 := by omega
            have h5d : decide ((k : Int) ≤ 5) = true := decide_eq_true h5i
            have hro := rowOf_good hall (by rw [HDL.out]; exact h5)
            rcases Nat.lt_or_ge nr 100 with h1 | h1
            rotate_left
            · have hbad := HMIDN.out (HMID2.out.trans (by rw [hro]; exact if_neg (by omega)))
              have h1i : ¬ (nr : Int) < 100 := by omega
              have h1d : decide ((nr : Int) < 100) = false := decide_eq_false h1i
              have HBAD := Lib.hid hbad
              clear hbad
              clear hall h5 hro h1
              go_wp2_with fail
              refine wp_region_ext_tail 15 (by kernel_rfl) (by kernel_rfl) ?_
              simp only [List.take_succ_cons, List.take_zero, List.drop_succ_cons, List.drop_zero]
              repeat (go_big_quiet_step (fail))
              refine wpQuiet_nil ?_
              rintro _ ⟨X, rfl⟩
              go_wp2_with (go_at_call 36; refine (place_must_no br (n : Int) 111 _ (World.Exts.cell exq v0)).mono ?_; rintro e w' ⟨rfl, X9, rfl⟩)
              exact ⟨rfl, TakeIs.bad HBAD.out (.of_exts (HEV.out.trans exq))⟩
            have h1i : (nr : Int) < 100 := by omega
            have h1d : decide ((nr : Int) < 100) = true := decide_eq_true h1i
            have hgood : midL n ⟨kn, rs.map Prod.fst, false⟩ B.data.toList = some ⟨kn, rs.map Prod.fst ++ [done.map fun m : Nat => (m : Int)], false⟩ := HMID2.out.trans (by rw [hro]; exact if_pos h1)
            have HGOOD := Lib.hid hgood
            clear hgood
            clear hall h5 hro
            go_wp2_with fail
            refine wp_region_ext_tail 15 (by kernel_rfl) (by kernel_rfl) ?_
            simp only [List.take_succ_cons, List.take_zero, List.drop_succ_cons, List.drop_zero]
            repeat (go_big_quiet_step (fail))
            refine wpQuiet_nil ?_
            rintro _ ⟨X, rfl⟩
            go_wp2_with (first
              | (go_at_call 36; refine (place_must_ok _ _ _).mono ?_; rintro e w' ⟨rfl, X10, rfl⟩)
              | (at_builtin; refine wpList_append1W (.tmp 88) (.tmp 90) elem_Slint rfl rfl rfl (ownsRow_exts HOWN.out (World.Exts.trans HEV.out exq)) [.slice qr k cr] _ (by simp) rfl rfl ?m1 ?m2 ?m4 ?m3 ?_))
            case m1 => intro u hu; simp at hu; subst hu; rfl
            case m2 => omega
            try (case m4 => decide)
            case m3 => exact Nat.le_trans hbV (World.Exts.size exq)
            intro v' w' hown' happ
            have hEq : w.Exts (World.ext (World.ext (World.ext V X8) X) X10) := HEV.out.trans exq
            have hEqB : (w.alloc (.cells #[.string B] 9)).Exts (World.ext (World.ext (World.ext V X8) X) X10) := HEB.out.trans exq
            have hVs : V.heap.size ≤ (World.ext (World.ext (World.ext V X8) X) X10).heap.size := World.Exts.size exq
            have hX8s : (World.ext V X8).heap.size ≤ (World.ext (World.ext (World.ext V X8) X) X10).heap.size := World.Exts.size exq
            have hrowk : IsRow (fun x : Int => [.int .i64 x]) 1 (World.ext (World.ext (World.ext V X8) X) X10) (.slice qr k cr) (done.map fun m : Nat => (m : Int)) := by
              have h1 := ownsRow_exts HR2.out (show (World.ext V X8).Exts (World.ext (World.ext (World.ext V X8) X) X10) from exq)
              refine IsRow.of_owns (base := V.heap.size) (e := 3) (size := 1) (enc := fun x : Int => [.int .i64 x]) ?_ (fun _ _ => rfl)
              rw [List.length_map, HDL.out, List.flatMap_map]
              exact h1
            have hbk : ∀ b, (Value.slice qr k cr).ownBlock = some b → base ≤ b ∧ b < (World.ext (World.ext (World.ext V X8) X) X10).heap.size ∧ (Value.slice qv nr cv).ownBlock ≠ some b := fun b e => by
              have h1 := HR2.out.lt _ e
              refine ⟨by omega, by omega, fun e2 => ?_⟩
              have h2 := (HOWN.out.lt _ e2).2
              have h3 := HEV.out.size
              omega
            have hOL := OwnLists.add (HO.out.exts hEq) (by rw [hnr]; exact hown') happ hrowk hbk happ.size
            have hLS := LaysAs.appended (HL.out.exts hEq) happ (fun e => by have := (HOWN.out.lt _ e).1; omega)
            have hBS := LaysAs.appended ((laysAs_size w (.cells [.string B].toArray 9 (0, 0)) rfl).exts hEqB) happ (fun e => by have := (HOWN.out.lt _ e).2; omega)
            have hTA := (Turns.of_exts (br := br) (base := base) hEq).trans (Turns.app (ownsRow_exts HOWN.out hEq) happ.toAppended)
            obtain ⟨q', c', hv'⟩ := owns_len hown'
            subst hv'
            have l0 := LaysAs.cell hLS.1 0 _ rfl
            have l1 := LaysAs.cell hLS.1 1 _ rfl
            have l2 := LaysAs.cell hLS.1 2 _ rfl
            have ll := Lays.of_cell l0
            have g2 := laysAs_frz (i := 2) hLS.1
            have HOL := Lib.hid hOL
            clear hOL
            have HLS := Lib.hid hLS
            clear hLS
            have HBS := Lib.hid hBS
            clear hBS
            have HTA := Lib.hid hTA
            clear hTA
            clear happ hown' hrowk hbk hEq hEqB hVs hX8s v0 v1 v2 v3 lv
            go_wp2_with fail
            go_meet
            exact ⟨_, _, _, HGOOD, Lib.hid (HTA.out.trans (Turns.put _ _ _)), Lib.hid (LaysAs.set (cs := [.int .i64 n, .int .u8 kn, .slice qv nr cv, .bool false]) HLS.out.1 (i := 2) _), Lib.hid (HOL.out.put hbb _), Lib.hid (by rw [List.map_append]; rfl), Lib.hid (laysAs_else HBS.out.1 hne5 _)⟩
  case rest =>
  obtain ⟨st, v', rs', HM, HT, HLc, HOc, HRS, HBc⟩ := hcut
  obtain ⟨q, hq⟩ : ∃ q, sealB n s.data.toList = q := ⟨_, rfl⟩
  have hfin := HMIDS.out st HM.out q hq
  have hiff2 := HIFF.out
  rw [hq] at hiff2
  have hE0c : w0.Exts wc := HT.out.exts w0 hE0 hbr (by omega)
  obtain ⟨tb, htb, hse⟩ : ∃ tb : ByteArray, tb.data.toList = sealT n B.data.toList ∧ ∀ W : World, w0.Exts W → Calls Tryz.prog 32 #[.int .i64 (n : Int), .string B] W fun e w' => e = .returned (.string tb) ∧ W.Exts w' := by
    refine ⟨⟨(sealT n B.data.toList).toArray⟩, rfl, fun W hE => (sheet_sealed_any n B W (by omega) (by have := HBZ.out; omega) (HW.out.mono hE)).mono ?_⟩
    rintro e w' ⟨r, rfl, hr, hE⟩
    obtain rfl : r = ⟨(sealT n B.data.toList).toArray⟩ := tx_inj hr
    exact ⟨rfl, hE⟩
  have d0 := LaysAs.cell HLc.out 0 _ rfl
  have ld := Lays.of_cell d0
  have b0 := LaysAs.cell HBc.out 0 _ rfl
  have lb5 := Lays.of_cell b0
  have HSE := Lib.hid hse
  clear hse
  have HFIN := Lib.hid hfin
  clear hfin
  have HE0C := Lib.hid hE0c
  clear hE0c
  clear HM HMIDS HIFF hq c0 c1 c2 c3 lb HL HO HMIDN hrl
  by_cases heq : tb = s
  · have hq2 : q = true := hiff2.2 (by rw [← htb, heq])
    subst hq2
    have hok : Rz = .ok st := HFIN.out
    have HOK := Lib.hid hok
    clear hok
    clear hiff2 htb HFIN
    subst heq
    go_wp2_with fail
    refine wp_region_ext_tail 12 (by kernel_rfl) (by kernel_rfl) ?_
    simp only [List.take_succ_cons, List.take_zero, List.drop_succ_cons, List.drop_zero]
    repeat (go_big_quiet_step ((go_at_call 32; exact Calls.in_ext (HSE.out _ (World.Exts.trans HE0C.out exq)))))
    refine wpQuiet_nil ?_
    rintro _ ⟨X, rfl⟩
    go_wp2_with (go_at_call 36; refine (place_must_ok _ _ _).mono ?_; rintro e w' ⟨rfl, X7, rfl⟩)
    go_end0
    rw [HOK.out]
    exact ⟨HT.out.trans (.of_exts exq), rfl, v', rs', HLc.out.exts exq, HOc.out.exts exq, HRS.out⟩
  · have hq2 : q = false := by
      cases q with
      | false => rfl
      | true => exact absurd (tx_inj (htb.trans (hiff2.1 rfl))) heq
    subst hq2
    have hbad : Rz = .error 112 := HFIN.out
    have hne : (tb.toList == s.toList) = false := by
      rw [beq_eq_false_iff_ne, Lib.toList_data, Lib.toList_data]
      exact fun e => heq (tx_inj e)
    have HBAD := Lib.hid hbad
    clear hbad
    clear hiff2 htb HFIN heq
    go_wp2_with fail
    refine wp_region_ext_tail 12 (by kernel_rfl) (by kernel_rfl) ?_
    simp only [List.take_succ_cons, List.take_zero, List.drop_succ_cons, List.drop_zero]
    repeat (go_big_quiet_step ((go_at_call 32; exact Calls.in_ext (HSE.out _ (World.Exts.trans HE0C.out exq)))))
    refine wpQuiet_nil ?_
    rintro _ ⟨X, rfl⟩
    go_wp2_with (go_at_call 36; refine (place_must_no br (n : Int) 112 _ (World.Exts.cell exq d0)).mono ?_; rintro e w' ⟨rfl, X7, rfl⟩)
    exact ⟨rfl, TakeIs.bad HBAD.out (HT.out.trans (.of_exts exq))⟩
end Go.Proofs.YtcickafaomfbmaaGreatDoor
