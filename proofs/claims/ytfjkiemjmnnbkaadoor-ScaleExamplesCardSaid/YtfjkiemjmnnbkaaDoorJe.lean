/-
  Several texts in one: see the heads of its parts.
-/
import Derived.Test.YtfjkiemjmnnbkaaDoorSa
import Derived.Test.YtfjkiemjmnnbkaaDoorBt
import Derived.Test.YtfjkiemjmnnbkaaDoorPl
import Derived.Test.YtfjkiemjmnnbkaaDoorRx
import Derived.Test.YtfjkiemjmnnbkaaDoorTp

/-
  Walks: how lists of numbers compare, and the members of a set.
-/
namespace Go.Proofs.YtfjkiemjmnnbkaaDoor
open Go.RowKit Kr
set_option linter.unusedSimpArgs false

theorem cmp_isNaN_any (x : Int) (w : World) : Calls Tryd.prog 82 #[.int .i64 x] w fun e w' => e = .returned (.bool false) ∧ w.Exts w' := by
  go_enter Tryd.func82, Tryd.ntmps82
  go_wp2_with fail
  go_ret
  exact ⟨by simp, exq⟩
theorem cmp_Compare_any (x y : Nat) (w : World) : Calls Tryd.prog 71 #[.int .i64 (x : Int), .int .i64 (y : Int)] w fun e w' => e = .returned (.int .i64 (if x = y then 0 else if x < y then -1 else 1)) ∧ w.Exts w' := by
  rcases Nat.lt_trichotomy x y with h | h | h
  · have hv : (if x = y then (0 : Int) else if x < y then -1 else 1) = -1 := by rw [if_neg (by omega), if_pos h]
    rw [hv]
    clear hv
    go_enter Tryd.func71, Tryd.ntmps71
    go_wp2_with (go_at_call 82; refine (cmp_isNaN_any _ _).mono ?_; rintro e w' ⟨rfl, X2, rfl⟩)
    go_ret
    exact ⟨rfl, exq⟩
  · subst h
    rw [if_pos rfl]
    go_enter Tryd.func71, Tryd.ntmps71
    go_wp2_with (go_at_call 82; refine (cmp_isNaN_any _ _).mono ?_; rintro e w' ⟨rfl, X2, rfl⟩)
    go_ret
    exact ⟨rfl, exq⟩
  · have hv : (if x = y then (0 : Int) else if x < y then -1 else 1) = 1 := by rw [if_neg (by omega), if_neg (by omega)]
    rw [hv]
    clear hv
    go_enter Tryd.func71, Tryd.ntmps71
    go_wp2_with (go_at_call 82; refine (cmp_isNaN_any _ _).mono ?_; rintro e w' ⟨rfl, X2, rfl⟩)
    go_ret
    exact ⟨rfl, exq⟩

set_option maxRecDepth 4000 in
set_option maxHeartbeats 1000000 in
theorem Compare_int_any (a b : List Nat) (va vb : Value) (w : World) (ha : IsRow (fun x : Nat => [.int .i64 (x : Int)]) 1 w va a) (hb : IsRow (fun x : Nat => [.int .i64 (x : Int)]) 1 w vb b) :
    Calls Tryd.prog 51 #[va, vb] w fun e w' => e = .returned (.int .i64 (compareN a b)) ∧ w.Exts w' := by
  obtain ⟨p1, b1, o1, cap1, rfl, hm1, hp1, hc1⟩ := ha.ex
  obtain ⟨p2, b2, o2, cap2, rfl, hm2, hp2, hc2⟩ := hb.ex
  have HP1 := Lib.hid hp1
  clear hp1
  have HC1 := Lib.hid hc1
  clear hc1
  have HP2 := Lib.hid hp2
  clear hp2
  have HC2 := Lib.hid hc2
  clear hc2
  clear ha hb
  go_enter Tryd.func51, Tryd.ntmps51
  go_wp2_with fail
  go_loopw [11] (fun i wr => ∃ k : Nat, k ≤ a.length ∧ i = .int .i64 k ∧ Hid (compareN a b = compareN (a.drop k) (b.drop k)) ∧ w.Exts wr) (fun i _ => a.length - (intOf i).toNat)
  case atStart => exact ⟨0, Nat.zero_le _, rfl, Lib.hid rfl, exq⟩
  case round =>
    obtain ⟨k, hk, rfl, HK, X, rfl⟩ := hrel
    by_cases hlt : k < a.length
    · obtain ⟨rfl, hl1⟩ := HP1.out (by omega)
      obtain ⟨x, hx⟩ := some_of_lt hlt
      have hcs := HC1.out k x hx
      have c0 := hcs 0 _ rfl
      simp only [Nat.mul_one, Nat.add_zero] at c0
      rcases Nat.lt_or_ge k b.length with h2 | h2
      · obtain ⟨rfl, hl2⟩ := HP2.out (by omega)
        obtain ⟨y, hy⟩ := some_of_lt h2
        have hds := HC2.out k y hy 0 _ rfl
        simp only [Nat.mul_one, Nat.add_zero] at hds
        have hst := compareN_step hx hy
        rcases Nat.lt_trichotomy x y with h | h | h
        · have hfin : compareN a b = -1 := by rw [HK.out, hst, if_neg (by omega), if_pos h]
          have hv : (if x = y then (0 : Int) else if x < y then -1 else 1) = -1 := by rw [if_neg (by omega), if_pos h]
          have HF := Lib.hid hfin
          clear hfin
          have HV := Lib.hid hv
          clear hv
          clear hx hy hcs hst
          go_wp2_with (go_at_call 71; refine (cmp_Compare_any x y _).mono ?_; rw [HV.out]; rintro e w' ⟨rfl, X2, rfl⟩)
          go_ret
          exact ⟨by rw [HF.out]; rfl, exq⟩
        · have hnx : compareN a b = compareN (a.drop (k + 1)) (b.drop (k + 1)) := by rw [HK.out, hst, if_pos h]
          have hv : (if x = y then (0 : Int) else if x < y then -1 else 1) = 0 := by rw [if_pos h]
          have HN := Lib.hid hnx
          clear hnx
          have HV := Lib.hid hv
          clear hv
          clear hx hy hcs hst h
          go_wp2_with (go_at_call 71; refine (cmp_Compare_any x y _).mono ?_; rw [HV.out]; rintro e w' ⟨rfl, X2, rfl⟩)
          go_roundw
          case rel => exact ⟨k + 1, by omega, by go_num, Lib.hid HN.out, exq⟩
          case measure => simp [intOf]; omega
        · have hfin : compareN a b = 1 := by rw [HK.out, hst, if_neg (by omega), if_neg (by omega)]
          have hv : (if x = y then (0 : Int) else if x < y then -1 else 1) = 1 := by rw [if_neg (by omega), if_neg (by omega)]
          have HF := Lib.hid hfin
          clear hfin
          have HV := Lib.hid hv
          clear hv
          clear hx hy hcs hst
          go_wp2_with (go_at_call 71; refine (cmp_Compare_any x y _).mono ?_; rw [HV.out]; rintro e w' ⟨rfl, X2, rfl⟩)
          go_ret
          exact ⟨by rw [HF.out]; rfl, exq⟩
      · have hfin : compareN a b = 1 := by rw [HK.out]; exact compareN_left hlt h2
        have HF := Lib.hid hfin
        clear hfin
        clear hx hcs
        go_wp2_with fail
        go_ret
        exact ⟨by rw [HF.out]; rfl, exq⟩
    · have hfin : compareN a b = if k < b.length then -1 else 0 := by rw [HK.out]; exact compareN_end (by omega)
      rcases Nat.lt_or_ge k b.length with h2 | h2
      · rw [if_pos h2] at hfin
        have HF := Lib.hid hfin
        clear hfin
        go_wp2_with fail
        go_ret
        exact ⟨by rw [HF.out]; rfl, exq⟩
      · rw [if_neg (by omega)] at hfin
        have HF := Lib.hid hfin
        clear hfin
        go_wp2_with fail
        go_ret
        exact ⟨by rw [HF.out]; rfl, exq⟩

end Go.Proofs.YtfjkiemjmnnbkaaDoor

/-
  Walks of the reference: the members of a set; numbers within bounds; whether pieces are the best.
-/
namespace Go.Proofs.YtfjkiemjmnnbkaaDoor
open Go.RowKit Kr
set_option linter.unusedSimpArgs false

def natCs (l : List Nat) : List Value := l.flatMap fun x : Nat => [.int .i64 (x : Int)]
theorem natCs_snoc (l : List Nat) (x : Nat) : natCs (l ++ [x]) = natCs l ++ [.int .i64 (x : Int)] := by simp [natCs]
theorem elem_intN : ElemOf Tryd.prog 41 3 (.int .i64 0) 1 8 := ⟨Tryd.underlying41, by kernel_rfl, rfl, by decide, by decide⟩
theorem row_nats {w : World} {base : Nat} {e : TypeId} {v : Value} {l : List Nat} (h : w.ownsRow base e 1 v l.length (natCs l)) : IsRow (fun x : Nat => [.int .i64 (x : Int)]) 1 w v l := IsRow.of_owns h (fun _ _ => rfl)

theorem bit_at : ∀ s : Fin 256, ∀ k : Fin 8, bits .and .i64 ((s.1 : Int) / 2 ^ k.1) 1 = if s.1.testBit k.1 then 1 else 0 := by decide +kernel

end Go.Proofs.YtfjkiemjmnnbkaaDoor

/-
  Walks: how choices compare, and the least of them.
-/
namespace Go.Proofs.YtfjkiemjmnnbkaaDoor
open Go.RowKit Kr
set_option linter.unusedSimpArgs false

/-- Choices, each with its pieces. -/
structure ChoicesAt (w : World) (v : Value) (l : List (Choice × Value)) : Prop where
  row : IsRow (fun x : Choice × Value => [.int .i64 x.1.weight, x.2]) 2 w v l
  each : ∀ x ∈ l, IsRow (fun x : Nat => [.int .i64 (x : Int)]) 1 w x.2 x.1.pieces
theorem ChoicesAt.mono {w w' : World} {v : Value} {l : List (Choice × Value)} (h : ChoicesAt w v l) (hE : w.Exts w') : ChoicesAt w' v l := ⟨h.row.mono hE, fun x hx => (h.each x hx).mono hE⟩

set_option maxRecDepth 4000 in
set_option maxHeartbeats 1000000 in
theorem scale_Ballast_1_any (a b : Choice) (va vb : Value) (w : World) (ha : IsRow (fun x : Nat => [.int .i64 (x : Int)]) 1 w va a.pieces) (hb : IsRow (fun x : Nat => [.int .i64 (x : Int)]) 1 w vb b.pieces) (wa : 0 ≤ a.weight ∧ a.weight ≤ 8000000) (wb : 0 ≤ b.weight ∧ b.weight ≤ 8000000) :
    Calls Tryd.prog 50 #[.agg #[.int .i64 a.weight, va], .agg #[.int .i64 b.weight, vb]] w fun e w' => e = .returned (.int .i64 (cmpC a b)) ∧ w.Exts w' := by
  obtain ⟨p1, c1, rfl⟩ := ha.len
  obtain ⟨p2, c2, rfl⟩ := hb.len
  have hla : a.pieces.length ≤ 9223372036854775807 := by obtain ⟨_, _, _, _, _, hm, _⟩ := ha.ex; omega
  have hlb : b.pieces.length ≤ 9223372036854775807 := by obtain ⟨_, _, _, _, _, hm, _⟩ := hb.ex; omega
  have HA := Lib.hid ha
  clear ha
  have HB := Lib.hid hb
  clear hb
  by_cases h1 : a.weight = b.weight
  · by_cases h2 : a.pieces.length = b.pieces.length
    · have hfin : cmpC a b = compareN a.pieces b.pieces := by unfold cmpC; rw [if_neg (by simp [h1]), if_neg (by simp [h2])]
      rw [hfin]
      have e1 : ((a.weight : Int) != b.weight) = false := by simp [h1]
      have e2 : ((a.pieces.length : Int) != b.pieces.length) = false := by simp [h2]
      clear hfin h1 h2
      go_enter Tryd.func50, Tryd.ntmps50
      go_wp2_with (go_at_call 51; refine (Compare_int_any a.pieces b.pieces _ _ _ (HA.out.mono exq) (HB.out.mono exq)).mono ?_; rintro e w' ⟨rfl, X2, rfl⟩)
      go_ret
      exact ⟨rfl, exq⟩
    · have hfin : cmpC a b = (a.pieces.length : Int) - b.pieces.length := by unfold cmpC; rw [if_neg (by simp [h1]), if_pos h2]
      rw [hfin]
      have e1 : ((a.weight : Int) != b.weight) = false := by simp [h1]
      have e2 : ((a.pieces.length : Int) != b.pieces.length) = true := by simp; omega
      clear hfin h1 h2
      go_enter Tryd.func50, Tryd.ntmps50
      go_wp2_with fail
      go_ret
      exact ⟨rfl, exq⟩
  · have hfin : cmpC a b = a.weight - b.weight := by unfold cmpC; rw [if_pos h1]
    rw [hfin]
    have e1 : ((a.weight : Int) != b.weight) = true := by simp [h1]
    clear hfin h1
    go_enter Tryd.func50, Tryd.ntmps50
    go_wp2_with fail
    go_ret
    exact ⟨rfl, exq⟩

theorem laysAs_frozen' {W : World} {b i : Nat} {cs : Array Value} {t : TypeId} (h : LaysAs W b (.cells cs t (0, 0))) : W.frozen? ⟨b, i, none⟩ = false := by
  unfold LaysAs at h; simp [World.frozen?, h]
theorem laysAs_other' {w : World} {b : Nat} {ob : Obj} (h : LaysAs w b ob) {a : Addr} (ha : b ≠ a.block) (u : Value) : LaysAs (w.setCell a u) b ob := (World.heap_set_other w _ u ha).trans h
theorem better_step {m c : Choice} : better (some m) c = if cmpC c m < 0 then some c else some m := by
  unfold better
  dsimp only
  rw [← cmpC_less]
  by_cases h : cmpC c m < 0
  · simp [h]
  · simp [h]

set_option maxRecDepth 4000 in
set_option maxHeartbeats 2000000 in
theorem MinFunc_choice_any (l : List (Choice × Value)) (v : Value) (w : World) (h : ChoicesAt w v l) (h0 : 0 < l.length) (hb : ∀ x ∈ l, 0 ≤ x.1.weight ∧ x.1.weight ≤ 8000000) :
    Calls Tryd.prog 49 #[v, .func (.func 50) #[] #[]] w fun e w' => ∃ m vm, e = .returned (.agg #[.int .i64 m.weight, vm]) ∧ (l.map Prod.fst).foldl better none = some m ∧ IsRow (fun x : Nat => [.int .i64 (x : Int)]) 1 w' vm m.pieces ∧ w.Exts w' := by
  have heach := h.each
  obtain ⟨p, b, o, cap, rfl, hm, hp, hc⟩ := h.row.ex
  obtain ⟨rfl, hlay⟩ := hp h0
  obtain ⟨⟨x, xv⟩, hx⟩ := some_of_lt h0
  have hcs := hc 0 _ hx
  have c0 := hcs 0 _ rfl
  have c1 := hcs 1 _ rfl
  simp only [Nat.add_zero] at c0 c1
  simp only [Nat.zero_mul, Nat.add_zero] at c0 c1
  have hxm := List.mem_of_getElem? hx
  obtain ⟨q1, k1, rfl⟩ : ∃ q k, xv = .slice q x.pieces.length k := (heach _ hxm).len
  have hst : ((l.take 1).map Prod.fst).foldl better none = some x := by rw [take_snoc (k := 0) hx]; rfl
  have HST := Lib.hid hst
  clear hst
  have HEA := Lib.hid heach
  clear heach
  have HB := Lib.hid hb
  clear hb
  have HC := Lib.hid hc
  clear hc
  clear hp h hcs
  go_enter Tryd.func49, Tryd.ntmps49
  go_wp2_with fail
  go_loopw [6] (fun i wr => ∃ (k : Nat) (y : Choice) (q : Option Addr) (kc : Nat), 1 ≤ k ∧ k ≤ l.length ∧ i = .int .i64 k ∧ Hid ((y, .slice q y.pieces.length kc) ∈ l) ∧ Hid (((l.take k).map Prod.fst).foldl better none = some y) ∧ Hid (LaysAs wr (w.heap.size + 1) (.cells [.int .i64 y.weight, .slice q y.pieces.length kc].toArray 125 (0, 0))) ∧ Hid (LaysAs wr w.heap.size (.cells [.int .i64 0, .slice none 0 0].toArray 125 (0, 0))) ∧ w.Exts wr) (fun i _ => l.length - (intOf i).toNat)
  case atStart =>
    refine ⟨1, x, q1, k1, by omega, by omega, rfl, Lib.hid hxm, Lib.hid HST.out, Lib.hid ?_, Lib.hid ?_, exq⟩
    · exact laysAs_size _ _ (by simp)
    · exact (LaysAs.new w (.cells #[.int .i64 0, .slice none 0 0] 125)).exts exq
  case round =>
    obtain ⟨k, y, q, kc, hk1, hk, rfl, HM, HY, HB1, HB0, hE⟩ := hrel
    have m0 := LaysAs.cell HB1.out 0 _ rfl
    have m1 := LaysAs.cell HB1.out 1 _ rfl
    have f0 : wr.frozen? ⟨w.heap.size + 1, 0, none⟩ = false := laysAs_frozen' HB1.out
    have f1 : wr.frozen? ⟨w.heap.size + 1, 1, none⟩ = false := laysAs_frozen' HB1.out
    have z0 := LaysAs.cell HB0.out 0 _ rfl
    have z1 := LaysAs.cell HB0.out 1 _ rfl
    have g0 : wr.frozen? ⟨w.heap.size, 0, none⟩ = false := laysAs_frozen' HB0.out
    have g1 : wr.frozen? ⟨w.heap.size, 1, none⟩ = false := laysAs_frozen' HB0.out
    have hl1 := Lays.of_cell m0
    have hl0 := Lays.of_cell z0
    by_cases hlt : k < l.length
    · obtain ⟨⟨z, zv⟩, hz⟩ := some_of_lt hlt
      have hcs := HC.out k _ hz
      have d0 := hE.cell (hcs 0 _ rfl)
      have d1 := hE.cell (hcs 1 _ rfl)
      simp only [Nat.add_zero] at d0 d1
      have hld := Lays.of_cell d0
      have hzm := List.mem_of_getElem? hz
      obtain ⟨q2, k2, rfl⟩ : ∃ q k, zv = .slice q z.pieces.length k := (HEA.out _ hzm).len
      have hnx : ((l.take (k + 1)).map Prod.fst).foldl better none = if cmpC z y < 0 then some z else some y := by
        rw [take_snoc hz, List.map_append, List.foldl_append, HY.out]
        exact better_step
      have hry := HEA.out _ HM.out
      have hrz := HEA.out _ hzm
      have hwy := HB.out _ HM.out
      have hwz := HB.out _ hzm
      dsimp only at hry hrz hwy hwz
      have HRY := Lib.hid hry
      clear hry
      have HRZ := Lib.hid hrz
      clear hrz
      have HWY := Lib.hid hwy
      clear hwy
      have HWZ := Lib.hid hwz
      clear hwz
      have HZM := Lib.hid hzm
      clear hzm
      clear hz hcs
      have hEr := hE
      rcases Int.lt_or_le (cmpC z y) 0 with hcmp | hcmp
      · rw [if_pos hcmp] at hnx
        have HNX := Lib.hid hnx
        clear hnx
        go_wp2_with fail
        refine wp_region_ext (by kernel_rfl) (by kernel_rfl) ?_
        repeat (go_big_quiet_step (first | (go_at_call 50; exact Calls.in_ext (scale_Ballast_1_any z y _ _ _ (HRZ.out.mono (exf hEr)) (HRY.out.mono (exf hEr)) HWZ.out HWY.out)) | (go_at_fn 50; exact Calls.in_ext (scale_Ballast_1_any z y _ _ _ (HRZ.out.mono (exf hEr)) (HRY.out.mono (exf hEr)) HWZ.out HWY.out))))
        refine wpQuiet_nil ?_
        rintro _ ⟨X, rfl⟩
        have hb1 := LaysAs.set (i := 1) (LaysAs.set (i := 0) (LaysAs.exts HB1.out (⟨X, rfl⟩ : wr.Exts (wr.ext X))) (.int .i64 z.weight)) (.slice q2 z.pieces.length k2)
        have hb0 := laysAs_other' (laysAs_other' (LaysAs.exts HB0.out (⟨X, rfl⟩ : wr.Exts (wr.ext X))) (a := ⟨w.heap.size + 1, 0, none⟩) (by simp) (.int .i64 z.weight)) (a := ⟨w.heap.size + 1, 1, none⟩) (by simp) (.slice q2 z.pieces.length k2)
        have HB1' := Lib.hid hb1
        clear hb1
        have HB0' := Lib.hid hb0
        clear hb0
        go_wp2_with fail
        go_roundw
        case rel => exact ⟨k + 1, z, q2, k2, by omega, by omega, by go_num, HZM, HNX, HB1', HB0', (exf hEr)⟩
        case measure => simp [intOf]; omega
      · rw [if_neg (by omega)] at hnx
        have HNX := Lib.hid hnx
        clear hnx
        go_wp2_with fail
        refine wp_region_ext (by kernel_rfl) (by kernel_rfl) ?_
        repeat (go_big_quiet_step (first | (go_at_call 50; exact Calls.in_ext (scale_Ballast_1_any z y _ _ _ (HRZ.out.mono (exf hEr)) (HRY.out.mono (exf hEr)) HWZ.out HWY.out)) | (go_at_fn 50; exact Calls.in_ext (scale_Ballast_1_any z y _ _ _ (HRZ.out.mono (exf hEr)) (HRY.out.mono (exf hEr)) HWZ.out HWY.out))))
        refine wpQuiet_nil ?_
        rintro _ ⟨X, rfl⟩
        go_wp2_with fail
        go_roundw
        case rel => exact ⟨k + 1, y, q, kc, by omega, by omega, by go_num, HM, HNX, Lib.hid (HB1.out.exts ⟨X, rfl⟩), Lib.hid (HB0.out.exts ⟨X, rfl⟩), (exf hEr)⟩
        case measure => simp [intOf]; omega
    · have hkl : k = l.length := by omega
      have hY := HY.out
      rw [hkl, List.take_length] at hY
      have hry := HEA.out _ HM.out
      dsimp only at hry
      have HRY := Lib.hid hry
      clear hry
      have HY2 := Lib.hid hY
      clear hY
      clear hkl
      go_wp2_with fail
      refine bodyPost_ret (v := .agg #[.int .i64 y.weight, .slice q y.pieces.length kc]) (by simp [results, Tryd.results49, go_sem, z0, z1]) rfl ?_
      exact ⟨y, _, rfl, HY2.out, HRY.out.mono (exf hE), (exf hE)⟩
end Go.Proofs.YtfjkiemjmnnbkaaDoor
