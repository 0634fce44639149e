/-
  The law SheetSwapped: its walk.
-/
import Derived.Test.YtkgchngaganokaaGreatDoorWtB
import Derived.Test.YtkgchngaganokaaGreatDoorUfJ
import Derived.Test.YtkgchngaganokaaGreatDoorUgW
import Derived.Test.YtkgchngaganokaaGreatDoorUgW
import Derived.Test.YtkgchngaganokaaGreatDoorUfJ
namespace Kr
open Go
theorem pick_strs {S : List (List UInt8)} {xs : List ByteArray} (h : xs.map (·.data.toList) = S.map (· ++ [10])) (idx : List Nat) (hin : ∀ k ∈ idx, k < S.length) : (idx.flatMap fun k => (xs.getD k ⟨#[]⟩).data.toList) = pickText S idx := by
  induction idx with
  | nil => rfl
  | cons a r ih =>
    have ha := hin a (List.mem_cons_self ..)
    rw [pickText_cons, List.flatMap_cons, ih fun k hk => hin k (List.mem_cons_of_mem _ hk)]
    congr 1
    have h1 := congrArg (fun l => l[a]?) h
    simp only [List.getElem?_map, List.getElem?_eq_getElem ha, Option.map_some] at h1
    unfold pickText pick
    rw [List.map_cons, List.map_nil, List.flatMap_cons, List.flatMap_nil, List.append_nil, List.getD_eq_getElem?_getD, List.getD_eq_getElem?_getD, List.getElem?_eq_getElem ha]
    cases hx : xs[a]? with
    | none => rw [hx] at h1; cases h1
    | some x => rw [hx] at h1; exact Option.some.inj h1
end Kr
namespace Go.Proofs.YtkgchngaganokaaGreatDoor
open Go.RowKit Kr
set_option linter.unusedSimpArgs false
set_option linter.unusedVariables false

/-- The first loop: the box of the lines. -/
structure SwAt (A W : World) (bx : Nat) (S : List (List UInt8)) (t : Nat) (ys : List ByteArray) (v : Value) : Prop where
  strs : ys.map (·.data.toList) = (S.take t).map (· ++ [10])
  own : W.ownsRow A.heap.size 9 1 v t (ys.flatMap fun x => [.string x])
  box : LaysAs W bx (.cells #[v] 36)
  turn : Turn A W bx

set_option maxRecDepth 4000 in
set_option maxHeartbeats 4000000 in
theorem l11_SheetSwapped_any (kd : Int) (ps : List (List Int × Value)) (v : Value) (one two : Int) (w : World) (hk : 0 ≤ kd ∧ kd ≤ 255) (h : ListsAt w v ps) (h1 : (Lit.int .u8 one).wf = true) (h2 : (Lit.int .u8 two).wf = true) (hw : LibAt w) (hc : ColsAt w) :
    Calls Tryz.prog 4 #[.agg #[.int .u8 kd, v], .int .u8 one, .int .u8 two] w fun e w' => e = .returned (.bool true) ∧ w.Exts w' := by
  obtain ⟨q, cap, hv⟩ := h.row.len
  subst hv
  obtain ⟨rb, B, hF⟩ := front_of kd ps _ w hk h hw hc
  have hb1 := wfU8 h1
  have hb2 := wfU8 h2
  cases rb
  · have HF := Lib.hid hF
    clear hF
    go_enter Tryz.func4, Tryz.ntmps4
    go_wp2_with (first | (go_at_call 9; refine (HF.out.alive _ exq).mono ?_; rintro e w' ⟨rfl, X19, rfl⟩) | (go_at_call 10; refine (HF.out.ready _ exq).mono ?_; rintro e w' ⟨rfl, X20, rfl⟩))
    go_ret
    exact ⟨rfl, exq⟩
  rcases Nat.lt_or_ge 1500 B.size with hT | hT
  · have hwl := hF.long rfl hT
    have HF := Lib.hid hF
    clear hF
    have HWL := Lib.hid hwl
    clear hwl
    clear hT
    go_enter Tryz.func4, Tryz.ntmps4
    go_wp2_with (first | (go_at_call 9; refine (HF.out.alive _ exq).mono ?_; rintro e w' ⟨rfl, X19, rfl⟩) | (go_at_call 10; refine (HF.out.ready _ exq).mono ?_; rintro e w' ⟨rfl, X20, rfl⟩) | (go_at_call 11; refine (HWL.out _ exq).mono ?_; rintro e w' ⟨rfl, X21, rfl⟩))
    go_ret
    exact ⟨rfl, exq⟩
  have hwl := hF.short rfl hT
  have hsb := (hF.ok rfl).1
  have hfew := (hF.ok rfl).2
  have hB := hF.text
  have hWr : Written kd (ps.map Prod.fst) := ⟨hsb⟩
  have hTl : (textFrom 1 (linesOf kd (ps.map Prod.fst))).length ≤ 1500 := by rw [← hB, tx_len]; exact hT
  have hno := hWr.no10
  have hSl := sealsOf_len kd (ps.map Prod.fst)
  have hsw := fun i k hi hk hne => read_swapped (i := i) (k := k) hsb hTl hi hk hne
  have hle := fun i hi => read_less (i := i) hsb hTl hi
  have htw := fun i hi => read_twice (i := i) hsb hi
  have hsz : ∀ l ∈ sealsOf kd (ps.map Prod.fst), l.length ≤ 100 := fun l hl => by
    obtain ⟨t, ht⟩ := List.getElem?_of_mem hl
    obtain ⟨b, hb, hs⟩ := sealsOf_get (kd := kd) (by have := (List.getElem?_eq_some_iff.1 ht).1; rw [sealsOf_len] at this; exact this)
    rw [ht] at hs
    obtain rfl := Option.some.inj hs
    have := (body_len hWr (List.mem_of_getElem? hb)).2
    rw [seal_len]
    omega
  obtain ⟨n, hn⟩ : ∃ n, (ps.map Prod.fst).length + 2 = n := ⟨_, rfl⟩
  rw [sealsOf_text] at hB
  generalize sealsOf kd (ps.map Prod.fst) = S at *
  rw [hn] at hSl hsw hle htw
  have hn98 : n ≤ 98 := by omega
  have hn2 : 2 ≤ n := by omega
  have hen := fun (W : World) => l11_ends_row B W (by omega)
  have hEl : (endsN 0 B.data.toList).length = n := by rw [endsN_len, hB, count_lines _ hno, hSl]
  have hE : ∀ t, t < n → ∃ l : List UInt8, S[t]? = some l ∧ (endsN 0 B.data.toList)[t]? = some ((preLen S t + l.length : Nat) : Int) ∧ (∀ a b : Nat, a = preLen S t → b = preLen S t + l.length + 1 → (B.extract a b).data.toList = l ++ [10]) ∧ preLen S t + l.length + 1 ≤ B.size := fun t ht => by
    obtain ⟨l, hl⟩ : ∃ l, S[t]? = some l := ⟨_, List.getElem?_eq_getElem (by omega)⟩
    have he := ends_at S 0 hno t l hl
    obtain ⟨p1, p2⟩ := pre_line hl
    refine ⟨l, hl, ?_, fun a b ha hb => ?_, by rw [← tx_len, hB]; exact p2⟩
    · rw [hB, he]
      unfold preLen
      simp
    · subst ha hb
      rw [Lib.extract_data, hB, show preLen S t + l.length + 1 - preLen S t = l.length + 1 by omega]
      exact p1
  have hall : preLen S n = B.size := by rw [← hSl, pre_all, ← hB, tx_len]
  obtain ⟨i, hri, hi⟩ : ∃ i : Nat, one.tmod (n : Int) = (i : Int) ∧ i < n := by
    have h1 := Int.emod_nonneg one (show (n : Int) ≠ 0 by omega)
    have h2 := Int.emod_lt_of_pos one (show 0 < (n : Int) by omega)
    refine ⟨(one % (n : Int)).toNat, ?_, by omega⟩
    rw [Int.tmod_eq_emod_of_nonneg hb1.1]
    omega
  obtain ⟨k, hrk, hk2⟩ : ∃ k : Nat, two.tmod (n : Int) = (k : Int) ∧ k < n := by
    have h1 := Int.emod_nonneg two (show (n : Int) ≠ 0 by omega)
    have h2 := Int.emod_lt_of_pos two (show 0 < (n : Int) by omega)
    refine ⟨(two % (n : Int)).toNat, ?_, by omega⟩
    rw [Int.tmod_eq_emod_of_nonneg hb2.1]
    omega
  generalize endsN 0 B.data.toList = E at *
  have HF := Lib.hid hF
  clear hF
  have HWL := Lib.hid hwl
  clear hwl
  have HEN := Lib.hid hen
  clear hen
  have HE := Lib.hid hE
  clear hE
  have HSZ := Lib.hid hsz
  clear hsz
  have HALL := Lib.hid hall
  clear hall
  have HB := Lib.hid hB
  clear hB
  have HSW := Lib.hid hsw
  clear hsw
  have HLE := Lib.hid hle
  clear hle
  have HTW := Lib.hid htw
  clear htw
  have HSL := Lib.hid hSl
  clear hSl
  have HEL := Lib.hid hEl
  clear hEl
  have HLIB := Lib.hid hw
  clear hsb hfew hWr hTl hno h hw hc hk hn
  go_enter Tryz.func4, Tryz.ntmps4
  go_wp2_with (first
    | (go_at_call 9; refine (HF.out.alive _ exq).mono ?_; rintro e w' ⟨rfl, X19, rfl⟩)
    | (go_at_call 10; refine (HF.out.ready _ exq).mono ?_; rintro e w' ⟨rfl, X20, rfl⟩)
    | (go_at_call 11; refine (HWL.out _ exq).mono ?_; rintro e w' ⟨rfl, X21, rfl⟩)
    | (go_at_call 14; refine (HEN.out _).mono ?_; rintro e W0 ⟨⟨ve, rfl, hrow, hnew⟩, hE0⟩; have hwE := World.Exts.trans (exq : w.Exts _) hE0; obtain ⟨bx, ebx, hbx, hlt, hbn, hbw⟩ := lays_after_ex hE0; have hwb := hbw w exq; rw [← ebx]; obtain ⟨qe, be, oe, ce, rfl, hm, hq, hc⟩ := hrow.ex; have HC := Lib.hid hc; have HQ := Lib.hid hq; have HNW := Lib.hid (fun b hb => hbn b (hnew b hb)); clear hc hq hrow hnew hbn hbw hE0 ebx))
  have hbl := Lays.of_cell (LaysAs.cell hbx 0 _ rfl)
  have HBX := Lib.hid hbx
  clear hbx
  rw [HEL.out] at HQ hm HNW
  rw [HEL.out]
  go_loopw [11, 13, 55] (fun fr _ ix wr => ∃ (t : Nat) (ys : List ByteArray) (u : Value), t ≤ n ∧ ix = .int .i64 t ∧ fr = .int .i64 (preLen S t : Nat) ∧ Hid (SwAt W0 wr bx S t ys u)) (fun _ _ ix _ => n - (intOf ix).toNat)
  case atStart => exact ⟨0, [], _, Nat.zero_le _, rfl, rfl, Lib.hid ⟨by simp, World.ownsRow_nil _ _ _ _, HBX.out, Turn.refl _ _⟩⟩
  case round =>
    obtain ⟨t, ys, u, ht, rfl, rfl, hS⟩ := hrel
    obtain ⟨qv, cv, hv⟩ := owns_len hS.out.own
    subst hv
    have hbl1 := Lays.of_cell (LaysAs.cell hS.out.box 0 _ rfl)
    have b0 := LaysAs.cell hS.out.box 0 _ rfl
    rcases Nat.lt_or_ge t n with hlt1 | hge
    · obtain ⟨l, hl, he, hex, hfit⟩ := HE.out t hlt1
      obtain ⟨rfl, hbe⟩ := HQ.out (by omega)
      have hne : be ≠ bx := by have := HNW.out be rfl; omega
      have c0 := hS.out.turn.cell (HC.out t _ he 0 _ rfl) (by exact hne)
      simp only [Nat.mul_one, Nat.add_zero] at c0
      have lbe := Lays.of_cell c0
      have hpl := plen_step hl
      have hex1 := hex _ _ rfl rfl
      have w1 : (t : Int) < (n : Int) := by omega
      obtain ⟨f, hf⟩ : ∃ f, preLen S t = f := ⟨_, rfl⟩
      rw [hf] at c0 hpl hfit hex1
      rw [hf]
      have w2 : (f : Int) ≤ ((f + l.length : Nat) : Int) + 1 := by omega
      have w3 : ((f + l.length : Nat) : Int) + 1 ≤ (B.size : Int) := by omega
      obtain ⟨z, hz⟩ : ∃ z, f + l.length = z := ⟨_, rfl⟩
      rw [hz] at c0 hpl hfit hex1 w2 w3
      have HPL := Lib.hid hpl
      clear hpl
      have HEX := Lib.hid hex1
      clear hex1
      have HL := Lib.hid hl
      clear hl
      have HFF := Lib.hid hf
      clear hf
      clear he hex
      go_wp2_with fail
      refine wp_region_calls 7 (fun i => i == 6) (fun _ v W => IsRow (fun x : ByteArray => [.string x]) 1 W v [B.extract f (z + 1)]) (by kernel_rfl) (fun ν => by kernel_rfl) (by kernel_rfl) (by kernel_rfl) (by kernel_rfl) (by kernel_rfl) ?mono ?_
      rotate_left 1
      apply Exists.intro
      refine ⟨fun ν L hL => ?_, fun c oc hc hU ν W hE hΦ => ?_, fun ν W hE hΦ => ?_⟩
      · simp only [modU, cOp, List.mapIdx_cons, List.mapIdx_nil, Nat.zero_add, Nat.reduceAdd, Nat.reduceBEq, Bool.or_false, Bool.false_or, Bool.or_true, Bool.true_or, Bool.or_self, Bool.false_eq_true, if_false, if_true, List.take_succ_cons, List.take_zero]
        repeat (go_big_quiet_step (fail))
        exact wpQuiet_nil hL
      case mono => exact fun c v W W' h hE => h.mono hE
      · simp at hU
        subst hU
        simp only [List.getElem?_cons_succ, List.getElem?_cons_zero, Option.some.injEq] at hc
        subst hc
        exact .inr ⟨.slice (some ⟨W.heap.size, 0, none⟩) 1 1, W.alloc (.cells #[.string (B.extract f (z + 1))] 9), by kernel_rfl, exq, (row_lit (enc := fun x : ByteArray => [.string x]) (k := 1) W #[.string (B.extract f (z + 1))] 9 [B.extract f (z + 1)] _ 1 rfl rfl rfl (fun _ _ => rfl) (by simp)).2⟩
      · have hrow := hΦ 6 (by decide) rfl
        generalize ν 6 = v6 at *
        simp only [List.drop_succ_cons, List.drop_zero]
        have hS2 := hS.out
        have ho2 := ownsRow_exts hS2.own hE
        have ht2 := hS2.turn.later hE
        have hb2 := hS2.box.exts hE
        have l2 := Lays.of_cell (LaysAs.cell hb2 0 _ rfl)
        have HS2 := Lib.hid hS2
        clear hS2
        clear hS hΦ hE b0 hbl1 c0 lbe
        at_builtin
        refine wpList_append_row (.tmp 59) (.tmp 65) elem_str rfl rfl rfl ho2 rfl hrow (fun _ _ => rfl) (fun y hy u hu => by simp at hu; subst hu; rfl) (by simp; omega) ht2.size ?_
        intro v' w' hown0 happ
        have hown' : w'.ownsRow W0.heap.size 9 1 v' (t + 1) (ys.flatMap (fun x => [.string x]) ++ [.string (B.extract f (z + 1))]) := hown0
        obtain ⟨qw, cw, hv2⟩ := owns_len hown'
        subst hv2
        clear hown0
        have hne2 : ∀ b, (Value.slice qv t cv).ownBlock = some b → b ≠ bx := fun b hb e => by
          have := (ho2.lt b hb).1
          omega
        have hb3 : LaysAs w' bx (.cells #[.slice qv t cv] 36) := (happ.block bx l2.lt (fun e => hne2 bx e.symm rfl)).trans hb2
        have ht3 := (ht2.appended happ (Nat.le_refl _)).set hlt 0 (.slice qw (t + 1) cw)
        have hb4 := LaysAs.set (i := 0) (cs := [.slice qv t cv]) hb3 (.slice qw (t + 1) cw)
        have ho4 := World.ownsRow.set hown' (p := ⟨bx, 0, none⟩) hlt (.slice qw (t + 1) cw)
        have d0 := LaysAs.cell hb3 0 _ rfl
        have f0 : w'.frozen? ⟨bx, 0, none⟩ = false := by unfold World.frozen?; rw [show w'.heap[bx]? = _ from hb3]; rfl
        have l3 := Lays.of_cell d0
        have hS4 : SwAt W0 (w'.setCell ⟨bx, 0, none⟩ (.slice qw (t + 1) cw)) bx S (t + 1) (ys ++ [B.extract f (z + 1)]) (.slice qw (t + 1) cw) := by
          refine ⟨?_, ?_, hb4, ht3⟩
          · rw [List.map_append, HS2.out.strs, take_snoc HL.out, List.map_append, List.map_cons, List.map_nil, HEX.out]
            rfl
          · rw [List.flatMap_append]
            exact ho4
        have HS4 := Lib.hid hS4
        clear hS4
        clear happ hown' ho2 ht2 hb2 hrow hb3 ht3 hb4 ho4 l2 HS2
        go_wp2_with fail
        go_roundw
        case rel => exact ⟨t + 1, _, _, by omega, by go_num, by rw [HPL.out]; go_num, HS4⟩
        case measure => simp [intOf]; omega
    · obtain rfl : t = n := by omega
      have hS2 := hS.out
      have hfr : preLen S t = B.size := HALL.out
      rw [hfr]
      have w1 : ¬ (t : Int) < (t : Int) := by omega
      have w2 : ¬ (t : Int) < 2 := by omega
      have w3 : ((B.size : Int) == (B.size : Int)) = true := by simp
      go_wp2_with fail
      refine wp_region_ext (by kernel_rfl) (by kernel_rfl) ?_
      repeat (go_big_quiet_step (fail))
      refine wpQuiet_nil ?_
      rintro _ ⟨X, rfl⟩
      go_wp2_with fail
      obtain ⟨W1, hW1⟩ : ∃ W, World.ext wr X = W := ⟨_, rfl⟩
      have hE1 : wr.Exts W1 := ⟨X, hW1.symm⟩
      rw [hW1]
      have hbx1 := hS2.box.exts hE1
      have hln : ys.length = t := by
        have := congrArg List.length hS2.strs
        rw [List.length_map, List.length_map, List.length_take, HSL.out] at this
        omega
      have hrow1 : IsRow (fun x : ByteArray => [.string x]) 1 W1 (.slice qv t cv) ys := IsRow.of_owns (by rw [hln]; exact ownsRow_exts hS2.own hE1) fun _ _ => rfl
      have hys := hS2.strs
      rw [List.take_of_length_le (by rw [HSL.out]; omega)] at hys
      have hw1 : w.Exts W1 := (hS2.turn.base hwE hwb).trans hE1
      have HB1 := Lib.hid hbx1
      clear hbx1
      have HROW1 := Lib.hid hrow1
      clear hrow1
      have HYS := Lib.hid hys
      clear hys
      have HLN := Lib.hid hln
      clear hln
      have HW1 := Lib.hid hw1
      clear hS hS2 hE1 hW1 hfr hbl1 b0 hw1
      go_loopw [18, 19, 20, 21, 91, 99, 106] (fun s l r _ ix _ _ wr2 => ∃ t1 : Nat, t1 ≤ t ∧ ix = .int .i64 t1 ∧ Hid (Own3 W1 wr2 3 s (swapOf i k t1) l (lessOf i t1) r (twiceOf i t1))) (fun _ _ _ _ ix _ _ _ => t - (intOf ix).toNat)
      case atStart => exact ⟨0, Nat.zero_le _, rfl, Lib.hid ⟨World.ownsRow_nil _ _ _ _, World.ownsRow_nil _ _ _ _, World.ownsRow_nil _ _ _ _, fun _ h => (by cases h), fun _ h => (by cases h), fun _ h => (by cases h), World.Exts.refl _⟩⟩
      case round =>
        obtain ⟨t1, ht1, rfl, H3⟩ := hrel
        obtain ⟨q1, c1, e1⟩ := owns_len H3.out.o1
        obtain ⟨q2, c2, e2⟩ := owns_len H3.out.o2
        obtain ⟨q3, c3, e3⟩ := owns_len H3.out.o3
        subst e1 e2 e3
        have hl1 := swap_len i k t1
        have hl2 := less_len i t1
        have hl3 := twice_len i t1
        have s1 := swap_step i k t1
        have s2 := less_step i t1
        have s3 := twice_step i t1
        rcases Nat.lt_or_ge t1 t with hlt2 | hge2
        · have m1 : (t1 : Int) < (t : Int) := by omega
          by_cases hti : t1 = i
          · subst hti
            rw [show swapAt t1 k t1 = k by unfold swapAt; rw [if_pos rfl]] at s1
            rw [if_pos rfl] at s2 s3
            rw [List.append_nil] at s2
            have s4 : twiceOf t1 (t1 + 1) = twiceOf t1 t1 ++ [t1] ++ [t1] := by rw [s3]; simp
            have S1 := Lib.hid s1
            clear s1
            have S2 := Lib.hid s2
            clear s2
            have S4 := Lib.hid s4
            clear s4
            clear s3
            generalize swapOf t1 k t1 = xs at *
            generalize lessOf t1 t1 = ls at *
            generalize twiceOf t1 t1 = ts at *
            have hx1 : xs.length ≤ 200 := by omega
            have hx2 : ls.length ≤ 200 := by omega
            have hx3 : ts.length ≤ 400 := by omega
            clear hl1 hl2 hl3
            go_wp2_with (at_builtin; refine wpList_append1W (.tmp 102) (.tmp 104) elem_int rfl rfl rfl H3.out.o1 [.int .i64 (k : Int)] _ (by simp) rfl rfl ?jaA ?jbA ?jcA ?jdA ?_)
            case jaA => intro u hu; simp at hu; subst hu; rfl
            case jbA => first | omega | (simp; omega)
            try (case jcA => decide)
            case jdA => exact H3.out.exts.size
            intro vA wA hoA haA
            have H3n := H3.out.push1 (a := k) (by first | exact hoA | simpa using hoA) haA
            obtain ⟨qA, cA, eA⟩ := owns_len hoA
            subst eA
            clear H3 hoA haA
            have H3 := Lib.hid H3n
            clear H3n
            go_wp2_with (at_builtin; refine wpList_append1W (.tmp 120) (.tmp 122) elem_int rfl rfl rfl H3.out.o3 [.int .i64 (t1 : Int)] _ (by simp) rfl rfl ?jaB ?jbB ?jcB ?jdB ?_)
            case jaB => intro u hu; simp at hu; subst hu; rfl
            case jbB => first | omega | (simp; omega)
            try (case jcB => decide)
            case jdB => exact H3.out.exts.size
            intro vB wB hoB haB
            have H3n := H3.out.push3 (a := t1) (by first | exact hoB | simpa using hoB) haB
            obtain ⟨qB, cB, eB⟩ := owns_len hoB
            subst eB
            clear H3 hoB haB
            have H3 := Lib.hid H3n
            clear H3n
            go_wp2_with (at_builtin; refine wpList_append1W (.tmp 127) (.tmp 129) elem_int rfl rfl rfl H3.out.o3 [.int .i64 (t1 : Int)] _ (by simp) rfl rfl ?jaC ?jbC ?jcC ?jdC ?_)
            case jaC => intro u hu; simp at hu; subst hu; rfl
            case jbC => first | omega | (simp; omega)
            try (case jcC => decide)
            case jdC => exact H3.out.exts.size
            intro vC wC hoC haC
            have H3n := H3.out.push3 (a := t1) (by first | exact hoC | simpa using hoC) haC
            obtain ⟨qC, cC, eC⟩ := owns_len hoC
            subst eC
            clear H3 hoC haC
            have H3 := Lib.hid H3n
            clear H3n
            go_wp2_with fail
            go_roundw
            case rel => exact ⟨t1 + 1, by omega, by go_num, Lib.hid (by rw [S1.out, S2.out, S4.out]; exact H3.out)⟩
            case measure => simp [intOf]; omega
          · by_cases htk : t1 = k
            · subst htk
              rw [show swapAt i t1 t1 = i by unfold swapAt; rw [if_neg hti, if_pos rfl]] at s1
              rw [if_neg hti] at s2 s3
              have n1 : ((t1 : Int) == (i : Int)) = false := beq_eq_false_iff_ne.2 (by omega)
              have S1 := Lib.hid s1
              clear s1
              have S2 := Lib.hid s2
              clear s2
              have S3 := Lib.hid s3
              clear s3
              generalize swapOf i t1 t1 = xs at *
              generalize lessOf i t1 = ls at *
              generalize twiceOf i t1 = ts at *
              have hx1 : xs.length ≤ 200 := by omega
              have hx2 : ls.length ≤ 200 := by omega
              have hx3 : ts.length ≤ 400 := by omega
              clear hl1 hl2 hl3 hti
              go_wp2_with (at_builtin; refine wpList_append1W (.tmp 109) (.tmp 111) elem_int rfl rfl rfl H3.out.o1 [.int .i64 (i : Int)] _ (by simp) rfl rfl ?jaD ?jbD ?jcD ?jdD ?_)
              case jaD => intro u hu; simp at hu; subst hu; rfl
              case jbD => first | omega | (simp; omega)
              try (case jcD => decide)
              case jdD => exact H3.out.exts.size
              intro vD wD hoD haD
              have H3n := H3.out.push1 (a := i) (by first | exact hoD | simpa using hoD) haD
              obtain ⟨qD, cD, eD⟩ := owns_len hoD
              subst eD
              clear H3 hoD haD
              have H3 := Lib.hid H3n
              clear H3n
              go_wp2_with (at_builtin; refine wpList_append1W (.tmp 116) (.tmp 118) elem_int rfl rfl rfl H3.out.o2 [.int .i64 (t1 : Int)] _ (by simp) rfl rfl ?jaE ?jbE ?jcE ?jdE ?_)
              case jaE => intro u hu; simp at hu; subst hu; rfl
              case jbE => first | omega | (simp; omega)
              try (case jcE => decide)
              case jdE => exact H3.out.exts.size
              intro vE wE hoE haE
              have H3n := H3.out.push2 (a := t1) (by first | exact hoE | simpa using hoE) haE
              obtain ⟨qE, cE, eE⟩ := owns_len hoE
              subst eE
              clear H3 hoE haE
              have H3 := Lib.hid H3n
              clear H3n
              go_wp2_with (at_builtin; refine wpList_append1W (.tmp 120) (.tmp 122) elem_int rfl rfl rfl H3.out.o3 [.int .i64 (t1 : Int)] _ (by simp) rfl rfl ?jaF ?jbF ?jcF ?jdF ?_)
              case jaF => intro u hu; simp at hu; subst hu; rfl
              case jbF => first | omega | (simp; omega)
              try (case jcF => decide)
              case jdF => exact H3.out.exts.size
              intro vF wF hoF haF
              have H3n := H3.out.push3 (a := t1) (by first | exact hoF | simpa using hoF) haF
              obtain ⟨qF, cF, eF⟩ := owns_len hoF
              subst eF
              clear H3 hoF haF
              have H3 := Lib.hid H3n
              clear H3n
              go_wp2_with fail
              go_roundw
              case rel => exact ⟨t1 + 1, by omega, by go_num, Lib.hid (by rw [S1.out, S2.out, S3.out]; exact H3.out)⟩
              case measure => simp [intOf]; omega
            · rw [show swapAt i k t1 = t1 by unfold swapAt; rw [if_neg hti, if_neg htk]] at s1
              rw [if_neg hti] at s2 s3
              have n1 : ((t1 : Int) == (i : Int)) = false := beq_eq_false_iff_ne.2 (by omega)
              have n2 : ((t1 : Int) == (k : Int)) = false := beq_eq_false_iff_ne.2 (by omega)
              have S1 := Lib.hid s1
              clear s1
              have S2 := Lib.hid s2
              clear s2
              have S3 := Lib.hid s3
              clear s3
              generalize swapOf i k t1 = xs at *
              generalize lessOf i t1 = ls at *
              generalize twiceOf i t1 = ts at *
              have hx1 : xs.length ≤ 200 := by omega
              have hx2 : ls.length ≤ 200 := by omega
              have hx3 : ts.length ≤ 400 := by omega
              clear hl1 hl2 hl3 hti htk
              go_wp2_with (at_builtin; refine wpList_append1W (.tmp 95) (.tmp 97) elem_int rfl rfl rfl H3.out.o1 [.int .i64 (t1 : Int)] _ (by simp) rfl rfl ?jaG ?jbG ?jcG ?jdG ?_)
              case jaG => intro u hu; simp at hu; subst hu; rfl
              case jbG => first | omega | (simp; omega)
              try (case jcG => decide)
              case jdG => exact H3.out.exts.size
              intro vG wG hoG haG
              have H3n := H3.out.push1 (a := t1) (by first | exact hoG | simpa using hoG) haG
              obtain ⟨qG, cG, eG⟩ := owns_len hoG
              subst eG
              clear H3 hoG haG
              have H3 := Lib.hid H3n
              clear H3n
              go_wp2_with (at_builtin; refine wpList_append1W (.tmp 116) (.tmp 118) elem_int rfl rfl rfl H3.out.o2 [.int .i64 (t1 : Int)] _ (by simp) rfl rfl ?jaH ?jbH ?jcH ?jdH ?_)
              case jaH => intro u hu; simp at hu; subst hu; rfl
              case jbH => first | omega | (simp; omega)
              try (case jcH => decide)
              case jdH => exact H3.out.exts.size
              intro vH wH hoH haH
              have H3n := H3.out.push2 (a := t1) (by first | exact hoH | simpa using hoH) haH
              obtain ⟨qH, cH, eH⟩ := owns_len hoH
              subst eH
              clear H3 hoH haH
              have H3 := Lib.hid H3n
              clear H3n
              go_wp2_with (at_builtin; refine wpList_append1W (.tmp 120) (.tmp 122) elem_int rfl rfl rfl H3.out.o3 [.int .i64 (t1 : Int)] _ (by simp) rfl rfl ?jaI ?jbI ?jcI ?jdI ?_)
              case jaI => intro u hu; simp at hu; subst hu; rfl
              case jbI => first | omega | (simp; omega)
              try (case jcI => decide)
              case jdI => exact H3.out.exts.size
              intro vI wI hoI haI
              have H3n := H3.out.push3 (a := t1) (by first | exact hoI | simpa using hoI) haI
              obtain ⟨qI, cI, eI⟩ := owns_len hoI
              subst eI
              clear H3 hoI haI
              have H3 := Lib.hid H3n
              clear H3n
              go_wp2_with fail
              go_roundw
              case rel => exact ⟨t1 + 1, by omega, by go_num, Lib.hid (by rw [S1.out, S2.out, S3.out]; exact H3.out)⟩
              case measure => simp [intOf]; omega
        · obtain rfl : t1 = t := by omega
          have m1 : ¬ (t1 : Int) < (t1 : Int) := by omega
          have hE4 := H3.out.exts
          have hsi := swap_in (i := i) (k := k) hi hk2
          have hli := fun x hx => less_in (i := i) (n := t1) x hx
          have hti := fun x hx => twice_in (i := i) (n := t1) x hx
          have hys5 : ∀ x ∈ ys, x.size ≤ 200 := by
            intro x hx
            obtain ⟨j, hj⟩ := List.getElem?_of_mem hx
            have hjl := (List.getElem?_eq_some_iff.1 hj).1
            obtain ⟨l, hl, _, _, _⟩ := HE.out j (by rw [← HLN.out]; exact hjl)
            have h2 := congrArg (fun l => l[j]?) HYS.out
            simp only [List.getElem?_map, hj, hl, Option.map_some, Option.some.injEq] at h2
            have h3 := HSZ.out l (List.mem_of_getElem? hl)
            rw [← tx_len, h2]
            simp
            omega
          have tx := fun (idx : List Nat) (v : Value) (W : World) (hE5 : wr.Exts W) (hrow : IsRow (fun x : Int => [.int .i64 x]) 1 wr v (idx.map fun k : Nat => (k : Int))) (hin : ∀ x ∈ idx, x < t1) (hn : idx.length ≤ 1000) => l11_swText_any ys idx v (.slice qv t1 cv) bx W (LaysAs.cell (HB1.out.exts (hE4.trans hE5)) 0 _ rfl) (HROW1.out.mono (hE4.trans hE5)) (hrow.mono hE5) (fun x hx => by rw [HLN.out]; exact hin x hx) hys5 hn
          have T1 := fun (W : World) (hE5 : wr.Exts W) => tx _ _ W hE5 H3.out.row1 hsi (by omega)
          have T2 := fun (W : World) (hE5 : wr.Exts W) => tx _ _ W hE5 H3.out.row2 hli (by omega)
          have T3 := fun (W : World) (hE5 : wr.Exts W) => tx _ _ W hE5 H3.out.row3 hti (by omega)
          have pk := fun (idx : List Nat) (hin : ∀ x ∈ idx, x < t1) => pick_strs HYS.out idx (fun x hx => by rw [HSL.out]; exact hin x hx)
          have p1 := pk _ hsi
          have p2 := pk _ hli
          have p3 := pk _ hti
          have hrd1 := fun hne => HSW.out i k hi hk2 hne
          obtain ⟨r2, hr2, hrd2⟩ := HLE.out i hi
          have hrd3 := HTW.out i hi
          have hwr : w.Exts wr := HW1.out.trans hE4
          have R2 := fun (s : ByteArray) (hs : s.data.toList = (lessOf i t1).flatMap fun k => (strAt ys k).data.toList) (W : World) (hE5 : wr.Exts W) => read_error s _ _ W (HLIB.out.mono (hwr.trans hE5)) (by rw [hs]; exact (congrArg readR p2).trans hrd2)
          have hHW := Lib.hid hwr
          generalize swapOf i k t1 = xs at *
          generalize lessOf i t1 = ls at *
          generalize twiceOf i t1 = ts at *
          have R3 : ∃ b g, ((g = 9 ∧ b = 0) ∨ ((g = 111 ∨ g = 112) ∧ b = ((i + 2 : Nat) : Int))) ∧ readR (pickText S ts) = ((0, []), b, g) := by
            rcases hrd3 with ⟨_, h⟩ | ⟨e, he, h⟩
            · exact ⟨0, 9, .inl ⟨rfl, rfl⟩, h⟩
            · exact ⟨_, e, .inr ⟨he, rfl⟩, h⟩
          obtain ⟨b3, g3, hg3, hrd3⟩ := R3
          have R3 := fun (s : ByteArray) (hs : s.data.toList = ts.flatMap fun k => (strAt ys k).data.toList) (W : World) (hE5 : wr.Exts W) => read_error s _ _ W (HLIB.out.mono (hwr.trans hE5)) (by rw [hs]; exact (congrArg readR p3).trans hrd3)
          have R1 : i ≠ k → ∃ e, (e = 111 ∨ e = 112) ∧ ∀ (s : ByteArray) (hs : s.data.toList = xs.flatMap fun k => (strAt ys k).data.toList) (W : World) (hE5 : wr.Exts W), Calls Tryz.prog 12 #[.string s] W fun e' w' => ∃ q c, e' = .returned (.tuple #[.agg #[.int .u8 0, .slice q 0 c], .int .i64 ((min i k + 1 : Nat) : Int), .int .i64 e]) ∧ W.Exts w' := fun hne => by
            obtain ⟨e, he, h⟩ := hrd1 hne
            exact ⟨e, he, fun s hs W hE5 => read_error s _ _ W (HLIB.out.mono (hwr.trans hE5)) (by rw [hs]; exact (congrArg readR p1).trans h)⟩
          have HT1 := Lib.hid T1
          have HT2 := Lib.hid T2
          have HT3 := Lib.hid T3
          have HR2 := Lib.hid R2
          have HR3 := Lib.hid R3
          have HG3 := Lib.hid hg3
          have HX2 := Lib.hid hr2
          clear T1 T2 T3 R2 R3 hg3 hr2 tx pk p1 p2 p3 hrd1 hrd2 hrd3 hsi hli hti hys5 hl1 hl2 hl3 s1 s2 s3 hE4 hwr H3
          clear hrd3
          have hlo5 : i ≤ 200 := by omega
          by_cases hik : i = k
          · have n1 : ((i : Int) == (k : Int)) = true := by simp [hik]
            clear R1
            have HIK := Lib.hid hik
            clear hik
            go_upto_region 42 with (first
              | (go_at_call 15; refine (HT2.out _ exq).mono ?_; rintro e w' ⟨s2, rfl, hs2, X43, rfl⟩; have HQ2 := Lib.hid (HR2.out s2 hs2); clear hs2 HT2)
              | (go_at_call 15; refine (HT3.out _ exq).mono ?_; rintro e w' ⟨s3, rfl, hs3, X45, rfl⟩; have HQ3 := Lib.hid (HR3.out s3 hs3); clear hs3 HT3)
              | (go_at_call 12; refine (HQ2.out _ exq).mono ?_; rintro e w' ⟨q43, c43, rfl, X44, rfl⟩; clear HQ2)
              | (go_at_call 12; refine (HQ3.out _ exq).mono ?_; rintro e w' ⟨q45, c45, rfl, X46, rfl⟩; clear HQ3))
            clear HF HWL HEN HE HSZ HB HSW HLE HTW HSL HEL HLIB HYS HB1 HROW1 HLN HW1 HR2 HR3 HC HQ HNW HBX
            rcases HX2.out with rfl | rfl
            all_goals
              rcases HG3.out with ⟨rfl, rfl⟩ | ⟨rfl | rfl, rfl⟩
              all_goals
                clear HX2 HG3
                go_wp2_with fail
                go_ret
                exact ⟨rfl, World.Exts.trans hHW.out exq⟩
          · obtain ⟨r1, hx1, R1⟩ := R1 hik
            have n1 : ((i : Int) == (k : Int)) = false := beq_eq_false_iff_ne.2 (by omega)
            obtain ⟨lo, hlo⟩ : ∃ lo, min i k = lo := ⟨_, rfl⟩
            rw [hlo] at R1
            have hlo2 : min (i : Int) (k : Int) = (lo : Int) := by omega
            have hlo3 : lo ≤ 200 := by omega
            have HR1 := Lib.hid R1
            clear R1
            clear hlo
            rcases hx1 with rfl | rfl
            all_goals
              go_upto_region 42 with (first
                | (go_at_call 15; refine (HT1.out _ exq).mono ?_; rintro e w' ⟨s1, rfl, hs1, X41, rfl⟩; have HQ1 := Lib.hid (HR1.out s1 hs1); clear hs1 HT1)
                | (go_at_call 15; refine (HT2.out _ exq).mono ?_; rintro e w' ⟨s2, rfl, hs2, X43, rfl⟩; have HQ2 := Lib.hid (HR2.out s2 hs2); clear hs2 HT2)
                | (go_at_call 15; refine (HT3.out _ exq).mono ?_; rintro e w' ⟨s3, rfl, hs3, X45, rfl⟩; have HQ3 := Lib.hid (HR3.out s3 hs3); clear hs3 HT3)
                | (go_at_call 12; refine (HQ1.out _ exq).mono ?_; rintro e w' ⟨q41, c41, rfl, X42, rfl⟩; clear HQ1)
                | (go_at_call 12; refine (HQ2.out _ exq).mono ?_; rintro e w' ⟨q43, c43, rfl, X44, rfl⟩; clear HQ2)
                | (go_at_call 12; refine (HQ3.out _ exq).mono ?_; rintro e w' ⟨q45, c45, rfl, X46, rfl⟩; clear HQ3))
              clear HF HWL HEN HE HSZ HB HSW HLE HTW HSL HEL HLIB HYS HB1 HROW1 HLN HW1 HR1 HR2 HR3 HC HQ HNW HBX hik
              rcases HX2.out with rfl | rfl
              all_goals
                rcases HG3.out with ⟨rfl, rfl⟩ | ⟨rfl | rfl, rfl⟩
                all_goals
                  clear HX2 HG3
                  go_wp2_with fail
                  go_ret
                  exact ⟨rfl, World.Exts.trans hHW.out exq⟩
end Go.Proofs.YtkgchngaganokaaGreatDoor
