/-
  The law SheetPut: its walk.
-/
import Derived.Test.YtkgchngaganokaaGreatDoorWtB
import Derived.Test.YtkgchngaganokaaGreatDoorUgW
import Derived.Test.YtkgchngaganokaaGreatDoorUfJ
import Derived.Test.YtkgchngaganokaaGreatDoorUfJ
import Derived.Test.YtkgchngaganokaaGreatDoorYaZ
import Derived.Test.YtkgchngaganokaaGreatDoorBs
namespace Go.Proofs.YtkgchngaganokaaGreatDoor
open Go.RowKit Go.Maps Kr
set_option linter.unusedSimpArgs false
set_option linter.unusedVariables false

theorem quiet_look {P : Program} {C : World → Prop} {o : Oper} {a : Act} {K : Act → Prop} {t : TypeId} {m k : Operand} {ok : Bool} {vm vk v : Value} (ho : o.op = .lookup t m k ok) (hm : a.eval m = vm) (hk : a.eval k = vk)
    (h : ∀ W, C W → (Instr.lookup t vm vk ok).run P W = .ok v W) (hK : K (a.put o.dst v)) : o.quiet P a C K :=
  ⟨v, fun W hW => by unfold Oper.quietAt; simp [execOp, ho, hm, hk, h W hW, Result.andThen, Oper.quietUpon], hK⟩
theorem flat_no63 {ys : List (List UInt8)} (h : ∀ y ∈ ys, (63 : UInt8) ∉ y) : (63 : UInt8) ∉ ys.flatMap (· ++ [10]) := by
  intro hm
  obtain ⟨y, hy, hm⟩ := List.mem_flatMap.1 hm
  rcases List.mem_append.1 hm with hm | hm
  · exact h y hy hm
  · cases List.mem_singleton.1 hm

set_option maxRecDepth 4000 in
set_option maxHeartbeats 4000000 in
theorem l11_SheetPut_any (tx : ByteArray) (w : World) (hw : LibAt w) :
    Calls Tryz.prog 6 #[.string tx] w fun e w' => e = .returned (.bool true) ∧ w.Exts w' := by
  have hal := fun (W : World) (hE : w.Exts W) => l11_alive_any W (hw.mono hE)
  have hrp := fun (W : World) (hE : w.Exts W) => (sheet_Repair_any tx W (hw.mono hE)).mono fun e w' h2 => h2.det
  obtain ⟨⟨⟨rw_, rl⟩, re⟩, hRR⟩ : ∃ S, repairR tx.data.toList = S := ⟨_, rfl⟩
  rw [hRR] at hrp
  dsimp only at hrp
  have HAL := Lib.hid hal
  clear hal
  rcases Nat.lt_or_ge 5000 tx.size with h5 | h5
  · have w1 : (5000 : Int) < (tx.size : Int) := by omega
    clear hrp hRR h5
    go_enter Tryz.func6, Tryz.ntmps6
    go_wp2_with (go_at_call 9; refine (HAL.out _ exq).mono ?_; rintro e w' ⟨rfl, X19, rfl⟩)
    go_ret
    exact ⟨rfl, exq⟩
  have w1 : (tx.size : Int) ≤ 5000 := by omega
  by_cases h0 : re = 0
  rotate_left
  · obtain ⟨rfl, hb⟩ := repair_bad hRR h0
    have n1 : (re == 0) = false := beq_eq_false_iff_ne.2 h0
    rw [show bytesT ([] : List UInt8) = (⟨#[]⟩ : ByteArray) from rfl] at hrp
    rcases hb with ⟨rfl, hl⟩ | ⟨rfl, hne⟩ | ⟨rfl, h1⟩
    · have w2 : (1500 : Int) < (tx.size : Int) := by rw [tx_len] at hl; omega
      have HRP := Lib.hid hrp
      clear hrp
      clear hRR h0 hl h5
      go_enter Tryz.func6, Tryz.ntmps6
      go_wp2_with (first
        | (go_at_call 9; refine (HAL.out _ exq).mono ?_; rintro e w' ⟨rfl, X19, rfl⟩)
        | (go_at_call 17; refine (HRP.out _ exq).mono ?_; rintro e w' ⟨q1, c1, rfl, hr1, X20, rfl⟩; clear hr1))
      go_ret
      exact ⟨rfl, exq⟩
    · have w2 : ¬ tx.toList = [] := fun e => hne (by rw [← Lib.toList_data]; exact e)
      have HRP := Lib.hid hrp
      clear hrp
      clear hRR h0 h5 hne
      go_enter Tryz.func6, Tryz.ntmps6
      go_wp2_with (first
        | (go_at_call 9; refine (HAL.out _ exq).mono ?_; rintro e w' ⟨rfl, X19, rfl⟩)
        | (go_at_call 17; refine (HRP.out _ exq).mono ?_; rintro e w' ⟨q1, c1, rfl, hr1, X20, rfl⟩; clear hr1))
      go_ret
      exact ⟨rfl, exq⟩
    · rw [h1] at hrp
      have HRP := Lib.hid hrp
      clear hrp
      clear hRR h0 h5 h1
      go_enter Tryz.func6, Tryz.ntmps6
      go_wp2_with (first
        | (go_at_call 9; refine (HAL.out _ exq).mono ?_; rintro e w' ⟨rfl, X19, rfl⟩)
        | (go_at_call 17; refine (HRP.out _ exq).mono ?_; rintro e w' ⟨q1, c1, rfl, hr1, X20, rfl⟩; clear hr1))
      go_ret
      exact ⟨rfl, exq⟩
  subst h0
  obtain ⟨ls, ys, htx, hys, hm, hrl, hnl, hny, hlt, hlen⟩ := repair_ok hRR
  obtain ⟨RW, hRW⟩ : ∃ s, bytesT rw_ = s := ⟨_, rfl⟩
  have hRW2 : RW.data.toList = rw_ := by rw [← hRW]; rfl
  rw [hRW] at hrp
  obtain ⟨z, hz⟩ : ∃ z, tx.size = z := ⟨_, rfl⟩
  have hz2 : RW.size = z := by rw [← tx_len, hRW2, hlen, tx_len, hz]
  have hz3 : z ≤ 1500 := by rw [← hz, ← tx_len]; exact hlt
  have hag := repair_again hm hny (by rw [← hys]; omega)
  rw [← hys] at hag
  have n2 : ((RW.size : Int) == (tx.size : Int)) = true := by rw [hz2, hz]; simp
  have hmm := @run_makeMap Tryz.prog
  have hat := fun (i : Nat) (W : World) => l11_at_any tx i W (by omega)
  have hby := hm.bytes
  have hcl := flat_no63 hm.clean
  rw [← hys, ← htx] at hby
  rw [← hys] at hcl
  have hrz : rl.length ≤ 1500 := by
    rw [hrl]
    have h1 := lostNums_len ls 1
    have h2 : ls.length ≤ (ls.flatMap (· ++ [10])).length := by
      rw [← count_lines _ hnl]
      exact List.count_le_length
    rw [← htx] at h2
    omega
  have HLIB := Lib.hid hw
  have HRP := Lib.hid hrp
  clear hrp
  have HAT := Lib.hid hat
  clear hat
  have HBY := Lib.hid hby
  clear hby
  have HCL := Lib.hid hcl
  clear hcl
  have HAG := Lib.hid hag
  clear hag
  have HM := Lib.hid hm
  clear hm
  have HRL := Lib.hid hrl
  clear hrl
  have HTX := Lib.hid htx
  clear htx
  have HYS := Lib.hid hys
  clear hys
  have HNL := Lib.hid hnl
  clear hnl
  have HNY := Lib.hid hny
  clear hny
  have HRW2 := Lib.hid hRW2
  clear hRW2
  clear hRR hRW hlen hlt h5 hw
  go_enter Tryz.func6, Tryz.ntmps6
  go_wp2_with (first
    | (go_at_call 9; refine (HAL.out _ exq).mono ?_; rintro e w' ⟨rfl, X19, rfl⟩)
    | (go_at_call 17; refine (HRP.out _ exq).mono ?_; rintro e V ⟨q1, c1, rfl, hr1, hEV⟩; have hwV := World.Exts.trans (exq : w.Exts _) hEV; have HR1 := Lib.hid hr1; clear hr1 hEV))
  have hI0 := World.ownsMap_made V Tryz.prog 3 readSelf
  have HI0 := Lib.hid hI0
  clear hI0
  first | rw [hz2] | rw [hz] | skip
  go_loopw [8, 75] (fun _ ix wr => ∃ (t : Nat) (D : DataW Value), t ≤ z ∧ ix = .int .i64 t ∧ Hid (wr.ownsMap Tryz.prog 3 readSelf V.heap.size t D) ∧ Hid (Idle D fun j => lostAt tx.data.toList t j) ∧ V.Exts wr) (fun _ ix _ => z - (intOf ix).toNat)
  case atStart => exact ⟨0, .map [], Nat.zero_le _, rfl, HI0, Lib.hid (Idle.nil.same fun i => by simp [lostAt]), exq⟩
  case round =>
    obtain ⟨t, D, ht, rfl, HI, HID, hE⟩ := hrel
    rcases Nat.lt_or_ge t z with hlt | hge
    · obtain ⟨X, rfl⟩ := hE
      have w2 : (t : Int) < (z : Int) := by omega
      have hx1 : t < tx.size := by omega
      have hy1 : t < RW.size := by omega
      have gx := tx_get hx1
      have gy := tx_get hy1
      obtain ⟨x, ex⟩ : ∃ x, tx[t]'hx1 = x := ⟨_, rfl⟩
      obtain ⟨y, ey⟩ : ∃ y, RW[t]'hy1 = y := ⟨_, rfl⟩
      rw [ex] at gx
      rw [ey] at gy
      have w3 : (t : Int) < (tx.size : Int) := by omega
      have w4 : (t : Int) < (RW.size : Int) := by omega
      have hyn : y ≠ 63 := fun e => HCL.out (by rw [← HRW2.out, ← e]; exact List.mem_of_getElem? gy)
      have hst := fun (j : Int) => lostAt_step tx.data.toList t j
      have y63 : ((y.toNat : Int) == 63) = false := by
        rw [beq_eq_false_iff_ne]
        intro e
        exact hyn (UInt8.toNat.inj (by have : (63 : UInt8).toNat = 63 := rfl; omega))
      by_cases hx : x = 63
      · have x1 : (x.toNat : Int) = 63 := by rw [hx]; rfl
        rw [hx] at gx
        have y64 : ((y.toNat : Int) != 63) = true := by rw [bne, y63]; rfl
        obtain ⟨k1, hk1⟩ : ∃ k, (tx.data.toList.take t).count 10 + 1 = k := ⟨_, rfl⟩
        have hk2 : k1 ≤ 1501 := by
          have h1 := List.count_le_length (a := (10 : UInt8)) (l := tx.data.toList.take t)
          rw [List.length_take] at h1
          omega
        have hat1 := fun (W : World) => HAT.out t W
        rw [hk1] at hat1
        have hkey : keyOf Tryz.prog 3 (.int .i64 (k1 : Int)) = some (.int .i64 (k1 : Int)) := keyOf_int_mk Tryz.underlying3 (WalkArith.wf_i64 (by omega))
        have hid2 : ∀ j, (j == (k1 : Int) || lostAt tx.data.toList t j) = lostAt tx.data.toList (t + 1) j := fun j => by
          rw [hst j, gx, hk1, Bool.eq_iff_iff]
          simp only [Bool.or_eq_true, Bool.and_eq_true, decide_eq_true_eq, beq_iff_eq, true_and]
          constructor
          · rintro (h | h)
            · exact .inr h.symm
            · exact .inl h
          · rintro (h | h)
            · exact .inr h
            · exact .inl h.symm
        have HID2 := Lib.hid hid2
        clear hid2
        have HAT1 := Lib.hid hat1
        clear hat1
        clear gx gy hyn hst hk1 hx
        go_wp2_with fail
        refine wp_region_ext (by kernel_rfl) (by kernel_rfl) ?_
        repeat (go_big_quiet_step (fail))
        refine wpQuiet_nil ?_
        rintro _ ⟨X, rfl⟩
        go_wp2_with (first
          | (go_at_call 13; refine (HAT1.out _).mono ?_; rintro e w' ⟨rfl, X31, rfl⟩)
          | (at_mapUpdate; refine wpList_mapUpdate_own _ rfl _ _ _ 47 rfl 3 4 law_int Tryz.underlying47 readSelf _ _ D rfl (ownsMap_exts HI.out exq) (by unfold maxLen; omega) _ _ _ rfl rfl hkey _ [] rfl ?_))
        intro w2 hown2 hg2
        have hE2 : V.Exts w2 := exts_turned (b := V.heap.size) exq (Nat.le_refl _) hg2
        have HE2 := Lib.hid hE2
        clear hE2
        have HOWN2 := Lib.hid hown2
        clear hown2
        clear hg2
        go_wp2_with fail
        go_roundw
        case rel => exact ⟨t + 1, _, by omega, by go_num, HOWN2, Lib.hid ((HID.out.put (k1 : Int)).same HID2.out), HE2.out⟩
        case measure => simp [intOf]; omega
      · have hxy : y = x := by
          have h := HBY.out t
          rw [← HRW2.out, gx, gy] at h
          rcases h with h | h
          · exact Option.some.inj h
          · exact absurd (Option.some.inj h) hx
        subst hxy
        have hid2 : Idle D fun j => lostAt tx.data.toList (t + 1) j := HID.out.same fun j => by
          rw [hst j, gx]
          simp [hx]
        have HID2 := Lib.hid hid2
        clear hid2
        have HST := Lib.hid hst
        clear hst
        clear gx gy HID hyn hx
        go_wp2_with fail
        refine wp_region_ext (by kernel_rfl) (by kernel_rfl) ?_
        repeat (go_big_quiet_step (fail))
        refine wpQuiet_nil ?_
        rintro _ ⟨X, rfl⟩
        go_wp2_with fail
        go_roundw
        case rel => exact ⟨t + 1, D, by omega, by go_num, Lib.hid ((ownsMap_exts HI.out exq).mono (Nat.le_succ _)), HID2, exq⟩
        case measure => simp [intOf]; omega
    · obtain rfl : t = z := by omega
      obtain ⟨X, rfl⟩ := hE
      have w2 : ¬ (t : Int) < (t : Int) := by omega
      have hen := fun (W : World) => l11_ends_row RW W (by omega)
      obtain ⟨n, hn⟩ : ∃ n, ys.length = n := ⟨_, rfl⟩
      have hEl : (endsN 0 RW.data.toList).length = n := by rw [endsN_len, HRW2.out, HYS.out, count_lines _ HNY.out, hn]
      have hEE : ∀ k, k < n → ∃ (x y : List UInt8), ls[k]? = some x ∧ ys[k]? = some y ∧ (endsN 0 RW.data.toList)[k]? = some ((preLen ys k + y.length : Nat) : Int) ∧ preLen ys (k + 1) = preLen ys k + y.length + 1 ∧ preLen ys k + y.length + 1 ≤ RW.size ∧ (RW.extract (preLen ys k) (preLen ys k + y.length)).data.toList = y := fun k hk => by
        obtain ⟨y, hy⟩ : ∃ y, ys[k]? = some y := ⟨_, List.getElem?_eq_getElem (by omega)⟩
        have hll : ls.length = n := by
          have := congrArg List.length HM.out.lens
          rw [List.length_map, List.length_map] at this
          omega
        obtain ⟨x, hx⟩ : ∃ x, ls[k]? = some x := ⟨_, List.getElem?_eq_getElem (by omega)⟩
        have he := ends_at ys 0 HNY.out k y hy
        obtain ⟨p1, p2⟩ := pre_line hy
        have hR : RW.data.toList = ys.flatMap (· ++ [10]) := by rw [HRW2.out]; exact HYS.out
        refine ⟨x, y, hx, hy, ?_, plen_step hy, by rw [← tx_len, hR]; exact p2, ?_⟩
        · rw [hR, he]
          unfold preLen
          simp
        · rw [Lib.extract_data, hR, Nat.add_sub_cancel_left]
          have h := congrArg (List.take y.length) p1
          rw [List.take_take, Nat.min_eq_left (by omega)] at h
          rw [h]
          simp
      have hhas := fun (k : Nat) (v : Value) (W : World) (hr : IsRow (fun x : Int => [.int .i64 x]) 1 W v rl) => l11_has_any rl v ((k + 1 : Nat) : Int) W hr (by omega)
      have hlook : ∀ k x, ls[k]? = some x → lostAt tx.data.toList t ((k + 1 : Nat) : Int) = decide ((63 : UInt8) ∈ x) ∧ decide ((((k + 1 : Nat) : Int)) ∈ rl) = decide ((63 : UInt8) ∈ x) := fun k x hx => by
        have h1 := lostAt_line HNL.out hx
        rw [← HTX.out, tx_len, hz] at h1
        refine ⟨h1, ?_⟩
        have h2 := lostNums_mem ls 1 k x hx
        rw [Nat.add_comm 1 k] at h2
        rw [HRL.out]
        exact decide_eq_decide.2 h2
      have hput : ∀ (k : Nat) (x y : List UInt8), ls[k]? = some x → ys[k]? = some y → (63 : UInt8) ∈ x → 5 ≤ y.length ∧ y.length ≤ 84 ∧ sealT (k + 1) (bodyOf y) = y := fun k x y hx hy h63 => by
        obtain ⟨y', hy', h⟩ := HM.out.get hx
        rw [hy] at hy'
        obtain rfl := Option.some.inj hy'
        rcases h with ⟨h, _⟩ | ⟨_, h⟩
        · exact absurd h63 h
        · obtain ⟨a1, a2, _, a4, _⟩ := putR_facts h63 h
          rw [Nat.add_comm 1 k] at a4
          exact ⟨a1, a2, a4⟩
      have hkey := fun (k : Nat) (hk : k ≤ 5000) => keyOf_int_mk (P := Tryz.prog) (k := 3) Tryz.underlying3 (a := ((k : Int) + 1)) (WalkArith.wf_i64 (by omega))
      have hlk := fun (k : Nat) (hk : k ≤ 5000) (W : World) (hE : (World.ext V X).Exts W) => look_self (ownsMap_exts HI.out hE) law_int Tryz.underlying47 (zero_bool W) (hkey k hk) (HID.out.at_ _)
      have hrp2 := fun (W : World) (hE : w.Exts W) => (sheet_Repair_any RW W (HLIB.out.mono hE)).mono fun e w' h2 => h2.det
      rw [HRW2.out, HAG.out] at hrp2
      rw [show bytesT ((rw_, ([] : List Int)), (0 : Int)).1.1 = RW from tx_inj (by rw [HRW2.out]; rfl)] at hrp2
      dsimp only [List.length_nil] at hrp2
      have hnz : n ≤ 1500 := by
        have h := count_lines _ HNY.out
        have h2 := List.count_le_length (a := (10 : UInt8)) (l := ys.flatMap (· ++ [10]))
        rw [h, hn, ← HYS.out, ← HRW2.out, tx_len] at h2
        omega
      have HEN := Lib.hid hen
      clear hen
      have HEE := Lib.hid hEE
      clear hEE
      have HEL := Lib.hid hEl
      clear hEl
      have HHAS := Lib.hid hhas
      clear hhas
      have HLOOK := Lib.hid hlook
      clear hlook
      have HPUT := Lib.hid hput
      clear hput
      have HLK := Lib.hid hlk
      clear hlk
      have HRP2 := Lib.hid hrp2
      clear hrp2
      have HNN := Lib.hid hn
      clear hn
      clear hkey HI HID
      go_wp2_with (go_at_call 14; refine (HEN.out _).mono ?_; rintro e V2 ⟨⟨ve, rfl, hrow, _⟩, hE2⟩; obtain ⟨qe, be, oe, ce, rfl, hm9, hq, hc⟩ := hrow.ex; have HC := Lib.hid hc; have HQ := Lib.hid hq; clear hc hq hrow)
      rw [HEL.out] at HQ hm9
      rw [HEL.out]
      have HE2 := Lib.hid hE2
      clear hE2
      go_loopw [9, 10, 11, 12, 13, 14, 15, 109] (fun fr _ _ _ _ _ _ ix wr2 => ∃ k : Nat, k ≤ n ∧ ix = .int .i64 k ∧ fr = .int .i64 (preLen ys k : Nat) ∧ V2.Exts wr2) (fun _ _ _ _ _ _ _ ix _ => n - (intOf ix).toNat)
      case atStart => exact ⟨0, Nat.zero_le _, rfl, rfl, World.Exts.refl _⟩
      case round =>
        obtain ⟨k, hk, rfl, rfl, X3, rfl⟩ := hrel
        rcases Nat.lt_or_ge k n with hlt1 | hge1
        · obtain ⟨x, y, hx, hy, he, hpl, hfit, hex⟩ := HEE.out k hlt1
          obtain ⟨rfl, hbe⟩ := HQ.out (by omega)
          have c0 := HC.out k _ he 0 _ rfl
          simp only [Nat.mul_one, Nat.add_zero] at c0
          have lbe := Lays.of_cell c0
          have m1 : (k : Int) < (n : Int) := by omega
          obtain ⟨f, hf⟩ : ∃ f, preLen ys k = f := ⟨_, rfl⟩
          rw [hf] at c0 hpl hfit hex
          rw [hf]
          obtain ⟨z1, hz1⟩ : ∃ z1, f + y.length = z1 := ⟨_, rfl⟩
          rw [hz1] at c0 hpl hfit hex
          have m2 : (f : Int) ≤ (z1 : Int) := by omega
          have m3 : (z1 : Int) ≤ (RW.size : Int) := by omega
          have m4 : RW.size ≤ 1500 := by omega
          obtain ⟨h1, h2⟩ := HLOOK.out k x hx
          have hE3 : (World.ext V X).Exts (World.ext V2 X3) := World.Exts.trans HE2.out exq
          have hlk2 := fun (W : World) (hE : (World.ext V2 X3).Exts W) => HLK.out k (by omega) W (hE3.trans hE)
          have hh := fun (W : World) (hE : (World.ext V2 X3).Exts W) => HHAS.out k _ W ((HR1.out.mono exq).mono (hE3.trans hE))
          rw [show (((k + 1 : Nat) : Int)) = (k : Int) + 1 from rfl] at h1 h2 hh
          rw [h2] at hh
          try dsimp only at hlk2
          rw [h1] at hlk2
          have HPL := Lib.hid hpl
          clear hpl
          have HH := Lib.hid hh
          clear hh
          have HK2 := Lib.hid hlk2
          clear hlk2
          by_cases h63 : (63 : UInt8) ∈ x
          · obtain ⟨a5, a84, hseal⟩ := HPUT.out k x y hx hy h63
            rw [decide_eq_true h63] at HH HK2
            rcases Nat.lt_or_ge k 100 with h100 | h100
            rotate_left
            · have m5 : (100 : Int) ≤ (k : Int) := by omega
              clear hx hy he hf hex h1 h2 h63 hE3 hz1 hseal a5 a84
              go_wp2_with fail
              refine wp_region_ext (by kernel_rfl) (by kernel_rfl) ?_
              iterate 7 (go_big_quiet_step ((go_at_call 19; exact Calls.in_ext (HH.out _ exq))))
              go_big_quiet_want
              refine quiet_look (v := .bool true) rfl rfl rfl (fun W hW => by obtain ⟨Z, rfl⟩ := hW; exact HK2.out _ exq) ?_
              simp only [Act.put, List.setIfInBounds_toArray, List.set_cons_succ, List.set_cons_zero]
              go_big_quiet_on
              repeat (go_big_quiet_step (fail))
              refine wpQuiet_nil ?_
              rintro _ ⟨X6, rfl⟩
              have hlk3 := HK2.out (World.ext (World.ext V2 X3) X6) exq
              go_wp2_with fail
              go_roundw
              case rel => exact ⟨k + 1, by omega, by go_num, by rw [HPL.out]; go_num, exq⟩
              case measure => simp [intOf]; omega
            have m5 : ¬ (100 : Int) ≤ (k : Int) := by omega
            have m6 : (k : Int) < 100 := by omega
            obtain ⟨LN, hLN⟩ : ∃ s, RW.extract f z1 = s := ⟨_, rfl⟩
            rw [hLN] at hex
            obtain ⟨m, hm1⟩ : ∃ m, y.length = m + 4 := ⟨y.length - 4, by omega⟩
            have hLz : LN.size = m + 4 := by rw [← tx_len, hex]; exact hm1
            have hbo : bodyOf y = y.take m := by unfold bodyOf; rw [hm1, Nat.add_sub_cancel]
            have hbl : (bodyOf y).length = m := by rw [hbo, List.length_take]; omega
            obtain ⟨g0, d1, d2, d3, b1, b2, b3, g1, g2, g3, hsum⟩ := seal_digits (k + 1) (bodyOf y)
            rw [hseal, hbl, ← hex] at g0 g1 g2 g3
            obtain ⟨sN, hsN⟩ : ∃ s, sumT (k + 1) (bodyOf y) = s := ⟨_, rfl⟩
            rw [hsN] at hsum
            have get : ∀ (j : Nat) (c : UInt8), LN.data.toList[j]? = some c → ∀ h : j < LN.size, LN[j]'h = c := fun j c hc h => by
              have := tx_get h
              rw [hc] at this
              exact (Option.some.inj this).symm
            have i0 := get m _ g0 (by omega)
            have i1 := get (m + 1) _ g1 (by omega)
            have i2 := get (m + 2) _ g2 (by omega)
            have i3 := get (m + 3) _ g3 (by omega)
            have u1 : ((dig d1).toNat : Int) = 48 + (d1 : Int) := by unfold dig; rw [dig_is (by omega)]; omega
            have u2 : ((dig d2).toNat : Int) = 48 + (d2 : Int) := by unfold dig; rw [dig_is (by omega)]; omega
            have u3 : ((dig d3).toNat : Int) = 48 + (d3 : Int) := by unfold dig; rw [dig_is (by omega)]; omega
            have hs3 : (d1 : Int) * 100 + (d2 : Int) * 10 + (d3 : Int) = (sN : Int) := by omega
            have hsu := fun (W : World) => sheet_Sum_any ((k : Int) + 1) (LN.extract 0 m) W
            have hxx : (LN.extract 0 m).data.toList = bodyOf y := by rw [Lib.extract_data, hex, hbo]; rfl
            have hsR : sumR ((k : Int) + 1) (LN.extract 0 m).data.toList = ((sN : Int), 0) := by
              unfold sumR
              rw [hxx, if_pos ⟨by unfold inb; simp; omega, by omega⟩]
              have : ((k : Int) + 1).toNat = k + 1 := by omega
              rw [this, hsN]
            rw [hsR] at hsu
            have o1 : (d1 : Int) ≤ 9 := by omega
            have o2 : (d2 : Int) ≤ 9 := by omega
            have o3 : (d3 : Int) ≤ 9 := by omega
            have m7 : (1 : Int) ≤ (m : Int) := by omega
            have m8 : (m : Int) ≤ 80 := by omega
            obtain ⟨v0, hv0⟩ : ∃ v, (32 : UInt8) = v := ⟨_, rfl⟩
            rw [hv0] at i0
            have u0 : (v0.toNat : Int) = 32 := by rw [← hv0]; rfl
            obtain ⟨r2, hr2⟩ : ∃ r, m + 2 = r := ⟨_, rfl⟩
            obtain ⟨r3, hr3⟩ : ∃ r, m + 3 = r := ⟨_, rfl⟩
            have q2 : (m : Int) + 2 = (r2 : Int) := by omega
            have q3 : (m : Int) + 3 = (r3 : Int) := by omega
            have q4 : (r2 : Int) < (LN.size : Int) := by omega
            have q5 : (r3 : Int) < (LN.size : Int) := by omega
            have q6 : r2 < LN.size := by omega
            have q7 : r3 < LN.size := by omega
            have i2 : LN[r2]'q6 = dig d2 := by subst hr2; exact i2
            have i3 : LN[r3]'q7 = dig d3 := by subst hr3; exact i3
            clear hr2 hr3
            generalize dig d1 = v1 at *
            generalize dig d2 = v2 at *
            generalize dig d3 = v3 at *
            have HSU := Lib.hid hsu
            clear hsu
            clear hx hy he hf hex h1 h2 h63 hE3 hz1 hseal a5 a84 g0 g1 g2 g3 hsum hsN get hbo hbl hm1 hxx hsR hv0
            go_wp2_with fail
            refine wp_region_ext (by kernel_rfl) (by kernel_rfl) ?_
            iterate 7 (go_big_quiet_step ((go_at_call 19; exact Calls.in_ext (HH.out _ exq))))
            go_big_quiet_want
            refine quiet_look (v := .bool true) rfl rfl rfl (fun W hW => by obtain ⟨Z, rfl⟩ := hW; exact HK2.out _ exq) ?_
            simp only [Act.put, List.setIfInBounds_toArray, List.set_cons_succ, List.set_cons_zero]
            go_big_quiet_on
            repeat (go_big_quiet_step (fail))
            refine wpQuiet_nil ?_
            rintro _ ⟨X6, rfl⟩
            have hlk3 := HK2.out (World.ext (World.ext V2 X3) X6) exq
            go_wp2_with (go_at_call 20; refine (HSU.out _).mono ?_; rintro e w' ⟨rfl, X7, rfl⟩)
            refine wp_region_ext (by kernel_rfl) (by kernel_rfl) ?_
            repeat (go_big_quiet_step (fail))
            refine wpQuiet_nil ?_
            rintro _ ⟨X, rfl⟩
            go_wp2_with fail
            go_roundw
            case rel => exact ⟨k + 1, by omega, by go_num, by rw [HPL.out]; go_num, exq⟩
            case measure => simp [intOf]; omega
          · rw [decide_eq_false h63] at HH HK2
            clear hx hy he hf hex h1 h2 h63 hE3 hz1
            go_wp2_with fail
            refine wp_region_ext (by kernel_rfl) (by kernel_rfl) ?_
            iterate 7 (go_big_quiet_step ((go_at_call 19; exact Calls.in_ext (HH.out _ exq))))
            go_big_quiet_want
            refine quiet_look (v := .bool false) rfl rfl rfl (fun W hW => by obtain ⟨Z, rfl⟩ := hW; exact HK2.out _ exq) ?_
            simp only [Act.put, List.setIfInBounds_toArray, List.set_cons_succ, List.set_cons_zero]
            go_big_quiet_on
            repeat (go_big_quiet_step (fail))
            refine wpQuiet_nil ?_
            rintro _ ⟨X6, rfl⟩
            have hlk3 := HK2.out (World.ext (World.ext V2 X3) X6) exq
            go_wp2_with fail
            go_roundw
            case rel => exact ⟨k + 1, by omega, by go_num, by rw [HPL.out]; go_num, exq⟩
            case measure => simp [intOf]; omega
        · obtain rfl : k = n := by omega
          have m1 : ¬ (k : Int) < (k : Int) := by omega
          have hwW : w.Exts (World.ext V2 X3) := hwV.trans ((World.Exts.trans (exq : V.Exts (World.ext V X)) (World.Exts.trans HE2.out exq)))
          have HWW := Lib.hid hwW
          clear hwW
          clear HC HQ HEE HEN HHAS HLOOK HPUT HLK HBY HCL HTX HYS HNL HNY HM HRL HAT HRP
          go_wp2_with (go_at_call 17; refine (HRP2.out _ (HWW.out.trans exq)).mono ?_; rintro e w' ⟨q45, c45, rfl, hr45, X45, rfl⟩; clear hr45)
          go_ret
          exact ⟨rfl, HWW.out.trans exq⟩
end Go.Proofs.YtkgchngaganokaaGreatDoor
