/-
  The law SheetChanged: its walk.
-/
import Derived.Test.YtkgchngaganokaaGreatDoorWtB
import Derived.Test.YtkgchngaganokaaGreatDoorWtB
import Derived.Test.YtkgchngaganokaaGreatDoorUgW
import Derived.Test.YtkgchngaganokaaGreatDoorUgW
import Derived.Laws.IdiomStrings
import Derived.Laws.Concat
namespace Go.Proofs.YtkgchngaganokaaGreatDoor
open Go.RowKit Kr
set_option linter.unusedSimpArgs false
set_option linter.unusedVariables false

/-- What is known of the operations of the law's region that makes the changed text. -/
def chKv (y : UInt8) (m e : Int) (c : Nat) : Option Value := if c = 5 then some (.string ⟨#[y]⟩) else if c = 15 then some (.int .i64 m) else if c = 16 then some (.int .i64 e) else none
def ChPhi (z : Nat) (y : UInt8) (m e : Int) (c : Nat) (v : Value) (W : World) : Prop :=
  (∀ u, chKv y m e c = some u → v = u) ∧ (c = 4 → ∃ b, v = .slice (some ⟨b, 0, none⟩) 1 1 ∧ LaysAs W b (.cells #[.int .u8 (y.toNat : Int)] 5)) ∧
  (c = 12 ∨ c = 13 → ∃ q k, v = .tuple #[.agg #[.int .u8 0, .slice q 0 k], .int .i64 m, .int .i64 e]) ∧ (c = 14 → ∃ q k, v = .agg #[.int .u8 0, .slice q 0 k]) ∧
  (c = 17 → ∃ b q k, v = .pointer (some ⟨b, 0, none⟩) ∧ z ≤ b ∧ LaysAs W b (.cells #[.int .u8 0, .slice q 0 k] 24))
theorem ChPhi.mono {z : Nat} {y : UInt8} {m e : Int} {c : Nat} {v : Value} {W W' : World} (h : ChPhi z y m e c v W) (hE : W.Exts W') : ChPhi z y m e c v W' :=
  ⟨h.1, fun hc => by obtain ⟨b, h1, h2⟩ := h.2.1 hc; exact ⟨b, h1, h2.exts hE⟩, h.2.2.1, h.2.2.2.1, fun hc => by obtain ⟨b, q, k, h1, h2, h3⟩ := h.2.2.2.2 hc; exact ⟨b, q, k, h1, h2, h3.exts hE⟩⟩
theorem lays_inj {W : World} {b : Nat} {o o' : Obj} (h : LaysAs W b o) (h' : LaysAs W b o') : o = o' := Option.some.inj (Eq.trans (Eq.symm h) h')
/-- A store into the sheet's block keeps what is known. -/
theorem ChPhi.stored {z : Nat} {y : UInt8} {m e : Int} {c : Nat} {v : Value} {W : World} {b : Nat} {q0 q : Option Addr} {k0 k : Nat} (h : ChPhi z y m e c v W) (hb : LaysAs W b (.cells #[.int .u8 0, .slice q0 0 k0] 24)) (hb' : LaysAs ((W.setCell ⟨b, 0, none⟩ (.int .u8 0)).setCell ⟨b, 1, none⟩ (.slice q 0 k)) b (.cells #[.int .u8 0, .slice q 0 k] 24)) : ChPhi z y m e c v ((W.setCell ⟨b, 0, none⟩ (.int .u8 0)).setCell ⟨b, 1, none⟩ (.slice q 0 k)) := by
  refine ⟨h.1, fun hc => ?_, h.2.2.1, h.2.2.2.1, fun hc => ?_⟩
  · obtain ⟨b4, h1, h2⟩ := h.2.1 hc
    have hne : b ≠ b4 := fun e => by
      subst e
      have := lays_inj hb h2
      simp at this
    exact ⟨b4, h1, laysAs_else (laysAs_else h2 (a := ⟨b, 0, none⟩) hne _) (a := ⟨b, 1, none⟩) hne _⟩
  · obtain ⟨b7, q7, k7, h1, h2, h3⟩ := h.2.2.2.2 hc
    by_cases e : b = b7
    · subst e
      exact ⟨b, q, k, h1, h2, hb'⟩
    · exact ⟨b7, q7, k7, h1, h2, laysAs_else (laysAs_else h3 (a := ⟨b, 0, none⟩) e _) (a := ⟨b, 1, none⟩) e _⟩

set_option maxRecDepth 4000 in
set_option maxHeartbeats 8000000 in
theorem l11_SheetChanged_any (kd : Int) (ps : List (List Int × Value)) (v : Value) (wh cy : Int) (w : World) (hk : 0 ≤ kd ∧ kd ≤ 255) (h : ListsAt w v ps) (hwh : (Lit.int .u32 wh).wf = true) (hto : (Lit.int .u8 cy).wf = true) (hw : LibAt w) (hc : ColsAt w) :
    Calls Tryz.prog 3 #[.agg #[.int .u8 kd, v], .int .u32 wh, .int .u8 cy] w fun e w' => e = .returned (.bool true) ∧ w.Exts w' := by
  obtain ⟨q, cap, hv⟩ := h.row.len
  subst hv
  obtain ⟨rb, B, hF⟩ := front_of kd ps _ w hk h hw hc
  have hwb := wfU32 hwh
  have htb := wfU8 hto
  cases rb
  · have HF := Lib.hid hF
    clear hF
    go_enter Tryz.func3, Tryz.ntmps3
    go_wp2_with (first | (go_at_call 9; refine (HF.out.alive _ exq).mono ?_; rintro e w' ⟨rfl, X19, rfl⟩) | (go_at_call 10; refine (HF.out.ready _ exq).mono ?_; rintro e w' ⟨rfl, X20, rfl⟩))
    go_ret
    exact ⟨rfl, exq⟩
  rcases Nat.lt_or_ge 1500 B.size with hT | hT
  · have hwl := hF.long rfl hT
    have HF := Lib.hid hF
    clear hF
    have HWL := Lib.hid hwl
    clear hwl
    clear hT
    go_enter Tryz.func3, Tryz.ntmps3
    go_wp2_with (first | (go_at_call 9; refine (HF.out.alive _ exq).mono ?_; rintro e w' ⟨rfl, X19, rfl⟩) | (go_at_call 10; refine (HF.out.ready _ exq).mono ?_; rintro e w' ⟨rfl, X20, rfl⟩) | (go_at_call 11; refine (HWL.out _ exq).mono ?_; rintro e w' ⟨rfl, X21, rfl⟩))
    go_ret
    exact ⟨rfl, exq⟩
  have hwl := hF.short rfl hT
  have hpos : 0 < B.size := by rw [← tx_len, hF.text]; exact text_pos _ _
  obtain ⟨i, hrem, hi⟩ : ∃ i : Nat, wh.tmod (B.size : Int) = (i : Int) ∧ i < B.size := by
    have h1 := Int.emod_nonneg wh (show (B.size : Int) ≠ 0 by omega)
    have h2 := Int.emod_lt_of_pos wh (show 0 < (B.size : Int) by omega)
    refine ⟨(wh % (B.size : Int)).toNat, ?_, by omega⟩
    rw [Int.tmod_eq_emod_of_nonneg hwb.1]
    omega
  have n1 : ¬ (B.size : Int) = 0 := by omega
  have n2 : (i : Int) < (B.size : Int) := by omega
  obtain ⟨y, hy⟩ : ∃ y : UInt8, (y.toNat : Int) = cy := ⟨UInt8.ofNat cy.toNat, by rw [UInt8.toNat_ofNat_of_lt' (by simp [UInt8.size]; omega)]; omega⟩
  subst hy
  have gb := tx_get hi
  obtain ⟨x, ex⟩ : ∃ x, B[i]'hi = x := ⟨_, rfl⟩
  rw [ex] at gb
  by_cases hxy : x = y
  · subst hxy
    have HF := Lib.hid hF
    clear hF
    have HWL := Lib.hid hwl
    clear hwl
    clear hT gb h hw hc hk
    go_enter Tryz.func3, Tryz.ntmps3
    go_wp2_with (first | (go_at_call 9; refine (HF.out.alive _ exq).mono ?_; rintro e w' ⟨rfl, X19, rfl⟩) | (go_at_call 10; refine (HF.out.ready _ exq).mono ?_; rintro e w' ⟨rfl, X20, rfl⟩) | (go_at_call 11; refine (HWL.out _ exq).mono ?_; rintro e w' ⟨rfl, X21, rfl⟩))
    go_ret
    exact ⟨rfl, exq⟩
  have nxy : ((x.toNat : Int) == (y.toNat : Int)) = false := by
    rw [beq_eq_false_iff_ne]
    intro e
    exact hxy (UInt8.toNat.inj (by omega))
  obtain ⟨re, hre, hch⟩ := read_changed (hF.ok rfl).1 (i := i) (y := y) (by rw [← hF.text, tx_len]; exact hT) (by rw [← hF.text, tx_len]; exact hi) (by rw [← hF.text, gb]; exact fun e => hxy (Option.some.inj e))
  rw [← hF.text] at hch
  have hat := fun (W : World) => l11_at_any B i W (by omega)
  obtain ⟨m, hm⟩ : ∃ m, (B.data.toList.take i).count 10 + 1 = m := ⟨_, rfl⟩
  rw [hm] at hch hat
  have hmz : m ≤ 5001 := by
    have := List.count_le_length (a := (10 : UInt8)) (l := B.data.toList.take i)
    rw [List.length_take] at this
    omega
  have hex : (B.extract 0 i ++ (⟨#[y]⟩ : ByteArray) ++ B.extract (i + 1) B.size).data.toList = B.data.toList.take i ++ [y] ++ B.data.toList.drop (i + 1) := by
    rw [tx_append, tx_append, Lib.extract_data, Lib.extract_data, List.take_of_length_le (l := B.data.toList.drop (i + 1)) (by rw [List.length_drop, tx_len]; omega)]
    rfl
  have hrd := fun (W : World) (hE : w.Exts W) => read_error (B.extract 0 i ++ (⟨#[y]⟩ : ByteArray) ++ B.extract (i + 1) B.size) _ _ W (hw.mono hE) (by rw [hex]; exact hch)
  have w4 : (i : Int) + 1 ≤ (B.size : Int) := by omega
  have hyb := y.toNat_lt
  have z1 : (B.extract 0 i).size = i := by rw [ByteArray.size_extract]; omega
  have z2 : (B.extract (i + 1) B.size).size = B.size - (i + 1) := by rw [ByteArray.size_extract]; omega
  have z3 : (B.extract 0 i ++ (⟨#[y]⟩ : ByteArray)).size = i + 1 := by rw [ByteArray.size_append, z1]; rfl
  have z4 : B.size ≤ 1500 := hT
  have a1 : ∀ W : World, (Op.stringOp .add (B.extract 0 i) (⟨#[y]⟩ : ByteArray)).run Tryz.prog W = .ok (.string (B.extract 0 i ++ (⟨#[y]⟩ : ByteArray))) W := fun W => run_string_add_sum _ _ _ (by rw [z1]; show i + 1 ≤ _; omega)
  have a2 : ∀ W : World, (Op.stringOp .add (B.extract 0 i ++ (⟨#[y]⟩ : ByteArray)) (B.extract (i + 1) B.size)).run Tryz.prog W = .ok (.string (B.extract 0 i ++ (⟨#[y]⟩ : ByteArray) ++ B.extract (i + 1) B.size)) W := fun W => run_string_add_sum _ _ _ (by rw [z2, z3]; omega)
  have HF := Lib.hid hF
  clear hF
  have HWL := Lib.hid hwl
  clear hwl
  have HRD := Lib.hid hrd
  clear hrd
  have HAT := Lib.hid hat
  clear hat
  have HRE := Lib.hid hre
  clear hre
  clear hT gb hm hch hex h hw hc hk hxy
  go_enter Tryz.func3, Tryz.ntmps3
  go_upto_region 12 with (first
    | (go_at_call 9; refine (HF.out.alive _ exq).mono ?_; rintro e w' ⟨rfl, X19, rfl⟩)
    | (go_at_call 10; refine (HF.out.ready _ exq).mono ?_; rintro e w' ⟨rfl, X20, rfl⟩)
    | (go_at_call 11; refine (HWL.out _ exq).mono ?_; rintro e V ⟨rfl, hEV⟩; have hwV := World.Exts.trans (exq : w.Exts _) hEV; clear hEV))
  refine wp_region_callsW 20 (fun i => i == 4 || i == 5 || i == 12 || i == 13 || i == 14 || i == 15 || i == 16 || i == 17 || i == 18) (fun c u W => ChPhi V.heap.size y m re c u W) (chKv y m re) (by kernel_rfl) (fun ν => by kernel_rfl) (by kernel_rfl) (by kernel_rfl) (by kernel_rfl) (by kernel_rfl) (by kernel_rfl) ?known ?_
  rotate_left 1
  apply Exists.intro
  refine ⟨fun ν hkn => ?want, fun ν hkn L hL => ?walk, fun c oc hc hU ν hkn hwt W hE hΦ => ?calls, fun ν hkn W hE hΦ => ?tail⟩
  case walk =>
    repeat (first
      | (refine modTo_free rfl ?_; go_big_quiet_step (fail))
      | (refine modTo_call rfl (hkn _ _ rfl) ?_; go_big_quiet_step (fail))
      | (refine modTo_call rfl rfl ?_; go_big_quiet_step (fail)))
    refine modTo_end ?_
    exact hL
  case known => exact fun c v W u h hk => h.1 u hk
  case want =>
    intro i oi hi hU
    simp at hU
    rcases hU with (((((((rfl | rfl) | rfl) | rfl) | rfl) | rfl) | rfl) | rfl) | rfl
    all_goals
      simp only [List.getElem?_cons_succ, List.getElem?_cons_zero, Option.some.injEq] at hi
      subst hi
      exact .inl rfl
  case calls =>
    have hwW : w.Exts W := World.Exts.trans hwV hE
    simp at hU
    rcases hU with (((((((rfl | rfl) | rfl) | rfl) | rfl) | rfl) | rfl) | rfl) | rfl
    · simp only [List.getElem?_cons_succ, List.getElem?_cons_zero, Option.some.injEq] at hc
      subst hc
      exact .inl (.inr ⟨.slice (some ⟨W.heap.size, 0, none⟩) 1 1, W.alloc (.cells #[.int .u8 (y.toNat : Int)] 5), by kernel_rfl, hE.trans exq, ⟨fun u h => (by cases h), fun _ => ⟨_, rfl, laysAs_size _ _ rfl⟩, fun e => (by rcases e with e | e <;> cases e), fun e => (by cases e), fun e => (by cases e)⟩, fun c' v' _ _ h => h.mono exq⟩)
    · simp only [List.getElem?_cons_succ, List.getElem?_cons_zero, Option.some.injEq] at hc
      subst hc
      obtain ⟨b4, e4, h4⟩ := (hΦ 4 rfl ⟨⟨4, .data⟩, by simp, rfl, rfl⟩).2.1 rfl
      have kcv : (convert 33 9 (.slice (some ⟨b4, 0, none⟩) 1 1)).run Tryz.prog W = .ok (.string ⟨#[y]⟩) W :=
        run_convert_bytes_back (P := Tryz.prog) _ _ _ _ _ 1 [y] Tryz.underlying33 Tryz.underlying5 Tryz.underlying9 (fun j hj => by
          obtain rfl : j = 0 := by simpa using hj
          exact LaysAs.cell h4 0 _ rfl)
      generalize ν 4 = v4 at *
      subst e4
      refine .inl (.inr ⟨.string ⟨#[y]⟩, W, ?_, hE, ⟨fun u hu => (by cases hu; rfl), fun e => (by cases e), fun e => (by rcases e with e | e <;> cases e), fun e => (by cases e), fun e => (by cases e)⟩, fun c' v' _ _ h => h⟩)
      simp [execOp, Result.andThen, go_sem, kcv]
    · simp only [List.getElem?_cons_succ, List.getElem?_cons_zero, Option.some.injEq] at hc
      subst hc
      refine .inl (Oper.gives_fn rfl rfl rfl (enters_of Tryz.func12 (by kernel_rfl) rfl) ?_ rfl)
      refine (HRD.out W hwW).mono ?_
      rintro e W' ⟨q9, c9, rfl, h3⟩
      exact ⟨_, rfl, hE.trans h3, ⟨fun u hu => (by cases hu), fun e => (by cases e), fun _ => ⟨q9, c9, rfl⟩, fun e => (by cases e), fun e => (by cases e)⟩, fun c' v' _ _ h => h.mono h3⟩
    · simp only [List.getElem?_cons_succ, List.getElem?_cons_zero, Option.some.injEq] at hc
      subst hc
      obtain ⟨q9, c9, e9⟩ := (hΦ 12 rfl ⟨⟨12, .data⟩, by simp, rfl, rfl⟩).2.2.1 (.inl rfl)
      generalize ν 12 = v12 at *
      subst e9
      exact .inl (.inr ⟨_, W, by kernel_rfl, hE, ⟨fun u hu => (by cases hu), fun e => (by cases e), fun _ => ⟨q9, c9, rfl⟩, fun e => (by cases e), fun e => (by cases e)⟩, fun c' v' _ _ h => h⟩)
    · simp only [List.getElem?_cons_succ, List.getElem?_cons_zero, Option.some.injEq] at hc
      subst hc
      obtain ⟨q9, c9, e9⟩ := (hΦ 13 rfl ⟨⟨13, .data⟩, by simp, rfl, rfl⟩).2.2.1 (.inr rfl)
      generalize ν 13 = v13 at *
      subst e9
      exact .inl (.inr ⟨.agg #[.int .u8 0, .slice q9 0 c9], W, by kernel_rfl, hE, ⟨fun u hu => (by cases hu), fun e => (by cases e), fun e => (by rcases e with e | e <;> cases e), fun _ => ⟨q9, c9, rfl⟩, fun e => (by cases e)⟩, fun c' v' _ _ h => h⟩)
    · simp only [List.getElem?_cons_succ, List.getElem?_cons_zero, Option.some.injEq] at hc
      subst hc
      obtain ⟨q9, c9, e9⟩ := (hΦ 13 rfl ⟨⟨13, .data⟩, by simp, rfl, rfl⟩).2.2.1 (.inr rfl)
      generalize ν 13 = v13 at *
      subst e9
      exact .inl (.inr ⟨.int .i64 m, W, by kernel_rfl, hE, ⟨fun u hu => (by cases hu; rfl), fun e => (by cases e), fun e => (by rcases e with e | e <;> cases e), fun e => (by cases e), fun e => (by cases e)⟩, fun c' v' _ _ h => h⟩)
    · simp only [List.getElem?_cons_succ, List.getElem?_cons_zero, Option.some.injEq] at hc
      subst hc
      obtain ⟨q9, c9, e9⟩ := (hΦ 13 rfl ⟨⟨13, .data⟩, by simp, rfl, rfl⟩).2.2.1 (.inr rfl)
      generalize ν 13 = v13 at *
      subst e9
      exact .inl (.inr ⟨.int .i64 re, W, by kernel_rfl, hE, ⟨fun u hu => (by cases hu; rfl), fun e => (by cases e), fun e => (by rcases e with e | e <;> cases e), fun e => (by cases e), fun e => (by cases e)⟩, fun c' v' _ _ h => h⟩)
    · simp only [List.getElem?_cons_succ, List.getElem?_cons_zero, Option.some.injEq] at hc
      subst hc
      exact .inl (.inr ⟨.pointer (some ⟨W.heap.size, 0, none⟩), W.alloc (.cells #[.int .u8 0, .slice none 0 0] 24), by kernel_rfl, hE.trans exq, ⟨fun u hu => (by cases hu), fun e => (by cases e), fun e => (by rcases e with e | e <;> cases e), fun e => (by cases e), fun _ => ⟨W.heap.size, none, 0, rfl, hE.size, laysAs_size _ _ rfl⟩⟩, fun c' v' _ _ h => h.mono exq⟩)
    · simp only [List.getElem?_cons_succ, List.getElem?_cons_zero, Option.some.injEq] at hc
      subst hc
      obtain ⟨b, q7, k7, e7, hz, hb⟩ := (hΦ 17 rfl ⟨⟨17, .data⟩, by simp, rfl, rfl⟩).2.2.2.2 rfl
      obtain ⟨q9, c9, e9⟩ := (hΦ 14 rfl ⟨⟨14, .data⟩, by simp, rfl, rfl⟩).2.2.2.1 rfl
      generalize ν 17 = v17 at *
      generalize ν 14 = v14 at *
      subst e7 e9
      have hb1 := LaysAs.set (i := 0) (cs := [.int .u8 0, .slice q7 0 k7]) hb (.int .u8 0)
      have hb2 := LaysAs.set (i := 1) hb1 (.slice q9 0 c9)
      have d0 := LaysAs.cell hb 0 _ rfl
      have d1 := LaysAs.cell hb 1 _ rfl
      have f0 : W.frozen? ⟨b, 0, none⟩ = false := by unfold World.frozen?; rw [show W.heap[b]? = _ from hb]; rfl
      have f1 : W.frozen? ⟨b, 1, none⟩ = false := by unfold World.frozen?; rw [show W.heap[b]? = _ from hb]; rfl
      refine .inr ⟨_, ?run, (hE.setCell (by dsimp only; omega) _).setCell (by dsimp only; omega) _, ⟨fun u hu => (by cases hu), fun e => (by cases e), fun e => (by rcases e with e | e <;> cases e), fun e => (by cases e), fun e => (by cases e)⟩, fun c' v' _ _ h => h.stored hb hb2⟩
      case run =>
        simp [execOp, Result.andThen, go_sem, d0, d1, f0, f1]
  case tail =>
    obtain ⟨b, q7, k7, e7, hz, hb⟩ := (hΦ 17 (by decide) rfl).2.2.2.2 rfl
    have hwW : w.Exts W := World.Exts.trans hwV hE
    have h15 := hkn 15 _ rfl
    have h16 := hkn 16 _ rfl
    generalize ν 17 = v17 at *
    subst e7
    have d0 := LaysAs.cell hb 0 _ rfl
    have d1 := LaysAs.cell hb 1 _ rfl
    have lb := Lays.of_cell d0
    simp only [List.drop_succ_cons, List.drop_zero]
    obtain ⟨X30, rfl⟩ := hwW
    clear hΦ hE
    rcases HRE.out with rfl | rfl
    · go_wp2_with (go_at_call 13; refine (HAT.out _).mono ?_; rintro e w' ⟨rfl, X24, rfl⟩)
      go_ret
      exact ⟨rfl, exq⟩
    · go_wp2_with (go_at_call 13; refine (HAT.out _).mono ?_; rintro e w' ⟨rfl, X24, rfl⟩)
      go_ret
      exact ⟨rfl, exq⟩
end Go.Proofs.YtkgchngaganokaaGreatDoor
