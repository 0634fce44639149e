/-
  Walks: how lists of numbers compare, and the members of a set.
-/
import Derived.Test.YtomcenfikdmmkaaGreatDoorSa
import Derived.Test.YtomcenfikdmmkaaGreatDoorBt
import Derived.Test.YtomcenfikdmmkaaGreatDoorPl
namespace Go.Proofs.YtomcenfikdmmkaaGreatDoor
open Go.RowKit Kr
set_option linter.unusedSimpArgs false

theorem cmp_isNaN_any (x : Int) (w : World) : Calls Tryz.prog 112 #[.int .i64 x] w fun e w' => e = .returned (.bool false) ∧ w.Exts w' := by
  go_enter Tryz.func112, Tryz.ntmps112
  go_wp2_with fail
  go_ret
  exact ⟨by simp, (by repeat' (first | with_reducible exact World.Exts.refl _ | with_reducible refine World.Exts.alloc ?_ _ | with_reducible refine World.Exts.drew ?_ | with_reducible refine World.Exts.drewN ?_ _ | with_reducible refine World.Exts.ext ?_ _ | with_reducible refine World.Exts.setCell ?_ ?_ _ | (simp; done) | exact World.size_ext_le _ _ | (simp; omega)))⟩
theorem cmp_Compare_any (x y : Nat) (w : World) : Calls Tryz.prog 84 #[.int .i64 (x : Int), .int .i64 (y : Int)] w fun e w' => e = .returned (.int .i64 (if x = y then 0 else if x < y then -1 else 1)) ∧ w.Exts w' := by
  rcases Nat.lt_trichotomy x y with h | h | h
  · have hv : (if x = y then (0 : Int) else if x < y then -1 else 1) = -1 := by rw [if_neg (by omega), if_pos h]
    rw [hv]
    clear hv
    go_enter Tryz.func84, Tryz.ntmps84
    go_wp2_with (go_at_call 112; refine (cmp_isNaN_any _ _).mono ?_; rintro e w' ⟨rfl, X2, rfl⟩)
    go_ret
    exact ⟨rfl, (by repeat' (first | with_reducible exact World.Exts.refl _ | with_reducible refine World.Exts.alloc ?_ _ | with_reducible refine World.Exts.drew ?_ | with_reducible refine World.Exts.drewN ?_ _ | with_reducible refine World.Exts.ext ?_ _ | with_reducible refine World.Exts.setCell ?_ ?_ _ | (simp; done) | exact World.size_ext_le _ _ | (simp; omega)))⟩
  · subst h
    rw [if_pos rfl]
    go_enter Tryz.func84, Tryz.ntmps84
    go_wp2_with (go_at_call 112; refine (cmp_isNaN_any _ _).mono ?_; rintro e w' ⟨rfl, X2, rfl⟩)
    go_ret
    exact ⟨rfl, (by repeat' (first | with_reducible exact World.Exts.refl _ | with_reducible refine World.Exts.alloc ?_ _ | with_reducible refine World.Exts.drew ?_ | with_reducible refine World.Exts.drewN ?_ _ | with_reducible refine World.Exts.ext ?_ _ | with_reducible refine World.Exts.setCell ?_ ?_ _ | (simp; done) | exact World.size_ext_le _ _ | (simp; omega)))⟩
  · have hv : (if x = y then (0 : Int) else if x < y then -1 else 1) = 1 := by rw [if_neg (by omega), if_neg (by omega)]
    rw [hv]
    clear hv
    go_enter Tryz.func84, Tryz.ntmps84
    go_wp2_with (go_at_call 112; refine (cmp_isNaN_any _ _).mono ?_; rintro e w' ⟨rfl, X2, rfl⟩)
    go_ret
    exact ⟨rfl, (by repeat' (first | with_reducible exact World.Exts.refl _ | with_reducible refine World.Exts.alloc ?_ _ | with_reducible refine World.Exts.drew ?_ | with_reducible refine World.Exts.drewN ?_ _ | with_reducible refine World.Exts.ext ?_ _ | with_reducible refine World.Exts.setCell ?_ ?_ _ | (simp; done) | exact World.size_ext_le _ _ | (simp; omega)))⟩

set_option maxRecDepth 4000 in
set_option maxHeartbeats 1000000 in
theorem Compare_int_any (a b : List Nat) (va vb : Value) (w : World) (ha : IsRow (fun x : Nat => [.int .i64 (x : Int)]) 1 w va a) (hb : IsRow (fun x : Nat => [.int .i64 (x : Int)]) 1 w vb b) :
    Calls Tryz.prog 43 #[va, vb] w fun e w' => e = .returned (.int .i64 (compareN a b)) ∧ w.Exts w' := by
  obtain ⟨p1, b1, o1, cap1, rfl, hm1, hp1, hc1⟩ := ha.ex
  obtain ⟨p2, b2, o2, cap2, rfl, hm2, hp2, hc2⟩ := hb.ex
  have HP1 := Lib.hid hp1
  clear hp1
  have HC1 := Lib.hid hc1
  clear hc1
  have HP2 := Lib.hid hp2
  clear hp2
  have HC2 := Lib.hid hc2
  clear hc2
  clear ha hb
  go_enter Tryz.func43, Tryz.ntmps43
  go_wp2_with fail
  go_loopw [11] (fun i wr => ∃ k : Nat, k ≤ a.length ∧ i = .int .i64 k ∧ Hid (compareN a b = compareN (a.drop k) (b.drop k)) ∧ w.Exts wr) (fun i _ => a.length - (intOf i).toNat)
  case atStart => exact ⟨0, Nat.zero_le _, rfl, Lib.hid rfl, (by repeat' (first | with_reducible exact World.Exts.refl _ | with_reducible refine World.Exts.alloc ?_ _ | with_reducible refine World.Exts.drew ?_ | with_reducible refine World.Exts.drewN ?_ _ | with_reducible refine World.Exts.ext ?_ _ | with_reducible refine World.Exts.setCell ?_ ?_ _ | (simp; done) | exact World.size_ext_le _ _ | (simp; omega)))⟩
  case round =>
    obtain ⟨k, hk, rfl, HK, X, rfl⟩ := hrel
    by_cases hlt : k < a.length
    · obtain ⟨rfl, hl1⟩ := HP1.out (by omega)
      obtain ⟨x, hx⟩ := some_of_lt hlt
      have hcs := HC1.out k x hx
      have c0 := hcs 0 _ rfl
      simp only [Nat.mul_one, Nat.add_zero] at c0
      rcases Nat.lt_or_ge k b.length with h2 | h2
      · obtain ⟨rfl, hl2⟩ := HP2.out (by omega)
        obtain ⟨y, hy⟩ := some_of_lt h2
        have hds := HC2.out k y hy 0 _ rfl
        simp only [Nat.mul_one, Nat.add_zero] at hds
        have hst := compareN_step hx hy
        rcases Nat.lt_trichotomy x y with h | h | h
        · have hfin : compareN a b = -1 := by rw [HK.out, hst, if_neg (by omega), if_pos h]
          have hv : (if x = y then (0 : Int) else if x < y then -1 else 1) = -1 := by rw [if_neg (by omega), if_pos h]
          have HF := Lib.hid hfin
          clear hfin
          have HV := Lib.hid hv
          clear hv
          clear hx hy hcs hst
          go_wp2_with (go_at_call 84; refine (cmp_Compare_any x y _).mono ?_; rw [HV.out]; rintro e w' ⟨rfl, X2, rfl⟩)
          go_ret
          exact ⟨by rw [HF.out]; rfl, (by repeat' (first | with_reducible exact World.Exts.refl _ | with_reducible refine World.Exts.alloc ?_ _ | with_reducible refine World.Exts.drew ?_ | with_reducible refine World.Exts.drewN ?_ _ | with_reducible refine World.Exts.ext ?_ _ | with_reducible refine World.Exts.setCell ?_ ?_ _ | (simp; done) | exact World.size_ext_le _ _ | (simp; omega)))⟩
        · have hnx : compareN a b = compareN (a.drop (k + 1)) (b.drop (k + 1)) := by rw [HK.out, hst, if_pos h]
          have hv : (if x = y then (0 : Int) else if x < y then -1 else 1) = 0 := by rw [if_pos h]
          have HN := Lib.hid hnx
          clear hnx
          have HV := Lib.hid hv
          clear hv
          clear hx hy hcs hst h
          go_wp2_with (go_at_call 84; refine (cmp_Compare_any x y _).mono ?_; rw [HV.out]; rintro e w' ⟨rfl, X2, rfl⟩)
          go_roundw
          case rel => exact ⟨k + 1, by omega, by go_num, Lib.hid HN.out, (by repeat' (first | with_reducible exact World.Exts.refl _ | with_reducible refine World.Exts.alloc ?_ _ | with_reducible refine World.Exts.drew ?_ | with_reducible refine World.Exts.drewN ?_ _ | with_reducible refine World.Exts.ext ?_ _ | with_reducible refine World.Exts.setCell ?_ ?_ _ | (simp; done) | exact World.size_ext_le _ _ | (simp; omega)))⟩
          case measure => simp [intOf]; omega
        · have hfin : compareN a b = 1 := by rw [HK.out, hst, if_neg (by omega), if_neg (by omega)]
          have hv : (if x = y then (0 : Int) else if x < y then -1 else 1) = 1 := by rw [if_neg (by omega), if_neg (by omega)]
          have HF := Lib.hid hfin
          clear hfin
          have HV := Lib.hid hv
          clear hv
          clear hx hy hcs hst
          go_wp2_with (go_at_call 84; refine (cmp_Compare_any x y _).mono ?_; rw [HV.out]; rintro e w' ⟨rfl, X2, rfl⟩)
          go_ret
          exact ⟨by rw [HF.out]; rfl, (by repeat' (first | with_reducible exact World.Exts.refl _ | with_reducible refine World.Exts.alloc ?_ _ | with_reducible refine World.Exts.drew ?_ | with_reducible refine World.Exts.drewN ?_ _ | with_reducible refine World.Exts.ext ?_ _ | with_reducible refine World.Exts.setCell ?_ ?_ _ | (simp; done) | exact World.size_ext_le _ _ | (simp; omega)))⟩
      · have hfin : compareN a b = 1 := by rw [HK.out]; exact compareN_left hlt h2
        have HF := Lib.hid hfin
        clear hfin
        clear hx hcs
        go_wp2_with fail
        go_ret
        exact ⟨by rw [HF.out]; rfl, (by repeat' (first | with_reducible exact World.Exts.refl _ | with_reducible refine World.Exts.alloc ?_ _ | with_reducible refine World.Exts.drew ?_ | with_reducible refine World.Exts.drewN ?_ _ | with_reducible refine World.Exts.ext ?_ _ | with_reducible refine World.Exts.setCell ?_ ?_ _ | (simp; done) | exact World.size_ext_le _ _ | (simp; omega)))⟩
    · have hfin : compareN a b = if k < b.length then -1 else 0 := by rw [HK.out]; exact compareN_end (by omega)
      rcases Nat.lt_or_ge k b.length with h2 | h2
      · rw [if_pos h2] at hfin
        have HF := Lib.hid hfin
        clear hfin
        go_wp2_with fail
        go_ret
        exact ⟨by rw [HF.out]; rfl, (by repeat' (first | with_reducible exact World.Exts.refl _ | with_reducible refine World.Exts.alloc ?_ _ | with_reducible refine World.Exts.drew ?_ | with_reducible refine World.Exts.drewN ?_ _ | with_reducible refine World.Exts.ext ?_ _ | with_reducible refine World.Exts.setCell ?_ ?_ _ | (simp; done) | exact World.size_ext_le _ _ | (simp; omega)))⟩
      · rw [if_neg (by omega)] at hfin
        have HF := Lib.hid hfin
        clear hfin
        go_wp2_with fail
        go_ret
        exact ⟨by rw [HF.out]; rfl, (by repeat' (first | with_reducible exact World.Exts.refl _ | with_reducible refine World.Exts.alloc ?_ _ | with_reducible refine World.Exts.drew ?_ | with_reducible refine World.Exts.drewN ?_ _ | with_reducible refine World.Exts.ext ?_ _ | with_reducible refine World.Exts.setCell ?_ ?_ _ | (simp; done) | exact World.size_ext_le _ _ | (simp; omega)))⟩

set_option maxRecDepth 4000 in
set_option maxHeartbeats 1000000 in
theorem r04_before_any (a b : List Nat) (va vb : Value) (w : World) (ha : IsRow (fun x : Nat => [.int .i64 (x : Int)]) 1 w va a) (hb : IsRow (fun x : Nat => [.int .i64 (x : Int)]) 1 w vb b) :
    Calls Tryz.prog 47 #[va, vb] w fun e w' => e = .returned (.bool (beforeB a b)) ∧ w.Exts w' := by
  obtain ⟨p1, b1, o1, cap1, rfl, hm1, hp1, hc1⟩ := ha.ex
  obtain ⟨p2, b2, o2, cap2, rfl, hm2, hp2, hc2⟩ := hb.ex
  have HP1 := Lib.hid hp1
  clear hp1
  have HC1 := Lib.hid hc1
  clear hc1
  have HP2 := Lib.hid hp2
  clear hp2
  have HC2 := Lib.hid hc2
  clear hc2
  clear ha hb
  by_cases hne : a.length = b.length
  · have hfin : beforeB a b = lexB a b := by unfold beforeB; rw [if_neg (by simp [hne])]
    rw [hfin, ← hne]
    have hle : a.length ≤ b.length := by omega
    have hge : b.length ≤ a.length := by omega
    clear hfin hne
    go_enter Tryz.func47, Tryz.ntmps47
    go_wp2_with fail
    go_loopw [5] (fun i wr => ∃ k : Nat, k ≤ a.length ∧ i = .int .i64 k ∧ Hid (lexB a b = lexB (a.drop k) (b.drop k)) ∧ w.Exts wr) (fun i _ => a.length - (intOf i).toNat)
    case atStart => exact ⟨0, Nat.zero_le _, rfl, Lib.hid rfl, (by repeat' (first | with_reducible exact World.Exts.refl _ | with_reducible refine World.Exts.alloc ?_ _ | with_reducible refine World.Exts.drew ?_ | with_reducible refine World.Exts.drewN ?_ _ | with_reducible refine World.Exts.ext ?_ _ | with_reducible refine World.Exts.setCell ?_ ?_ _ | (simp; done) | exact World.size_ext_le _ _ | (simp; omega)))⟩
    case round =>
      obtain ⟨k, hk, rfl, HK, X, rfl⟩ := hrel
      by_cases hlt : k < a.length
      · obtain ⟨rfl, hl1⟩ := HP1.out (by omega)
        obtain ⟨x, hx⟩ := some_of_lt hlt
        have hcs := HC1.out k x hx
        have c0 := hcs 0 _ rfl
        simp only [Nat.mul_one, Nat.add_zero] at c0
        obtain ⟨rfl, hl2⟩ := HP2.out (by omega)
        obtain ⟨y, hy⟩ := some_of_lt (xs := b) (k := k) (by omega)
        have hds := HC2.out k y hy 0 _ rfl
        simp only [Nat.mul_one, Nat.add_zero] at hds
        have hst := lexB_step hx hy
        rcases Nat.lt_trichotomy x y with h | h | h
        · have hfin : lexB a b = true := by rw [HK.out, hst, if_neg (by omega)]; simp [h]
          have HF := Lib.hid hfin
          clear hfin
          clear hx hy hcs hst
          go_wp2_with fail
          refine wp_region_ext (by kernel_rfl) (by kernel_rfl) ?_
          repeat (go_big_quiet_step (fail))
          refine wpQuiet_nil ?_
          rintro _ ⟨X, rfl⟩
          go_wp2_with fail
          refine wp_region_ext (by kernel_rfl) (by kernel_rfl) ?_
          repeat (go_big_quiet_step (fail))
          refine wpQuiet_nil ?_
          rintro _ ⟨X, rfl⟩
          go_wp2_with fail
          go_ret
          exact ⟨by rw [HF.out]; try simp [h], (by repeat' (first | with_reducible exact World.Exts.refl _ | with_reducible refine World.Exts.alloc ?_ _ | with_reducible refine World.Exts.drew ?_ | with_reducible refine World.Exts.drewN ?_ _ | with_reducible refine World.Exts.ext ?_ _ | with_reducible refine World.Exts.setCell ?_ ?_ _ | (simp; done) | exact World.size_ext_le _ _ | (simp; omega)))⟩
        · have hnx : lexB a b = lexB (a.drop (k + 1)) (b.drop (k + 1)) := by rw [HK.out, hst, if_pos h]
          have HN := Lib.hid hnx
          clear hnx
          have hxy : ((x : Int) != (y : Int)) = false := by simp [h]
          clear hx hy hcs hst h
          go_wp2_with fail
          refine wp_region_ext (by kernel_rfl) (by kernel_rfl) ?_
          repeat (go_big_quiet_step (fail))
          refine wpQuiet_nil ?_
          rintro _ ⟨X, rfl⟩
          go_wp2_with fail
          go_roundw
          case rel => exact ⟨k + 1, by omega, by go_num, Lib.hid HN.out, (by repeat' (first | with_reducible exact World.Exts.refl _ | with_reducible refine World.Exts.alloc ?_ _ | with_reducible refine World.Exts.drew ?_ | with_reducible refine World.Exts.drewN ?_ _ | with_reducible refine World.Exts.ext ?_ _ | with_reducible refine World.Exts.setCell ?_ ?_ _ | (simp; done) | exact World.size_ext_le _ _ | (simp; omega)))⟩
          case measure => simp [intOf]; omega
        · have hfin : lexB a b = false := by rw [HK.out, hst, if_neg (by omega)]; simp; omega
          have HF := Lib.hid hfin
          clear hfin
          clear hx hy hcs hst
          go_wp2_with fail
          refine wp_region_ext (by kernel_rfl) (by kernel_rfl) ?_
          repeat (go_big_quiet_step (fail))
          refine wpQuiet_nil ?_
          rintro _ ⟨X, rfl⟩
          go_wp2_with fail
          refine wp_region_ext (by kernel_rfl) (by kernel_rfl) ?_
          repeat (go_big_quiet_step (fail))
          refine wpQuiet_nil ?_
          rintro _ ⟨X, rfl⟩
          go_wp2_with fail
          go_ret
          exact ⟨by rw [HF.out]; try (simp; omega), (by repeat' (first | with_reducible exact World.Exts.refl _ | with_reducible refine World.Exts.alloc ?_ _ | with_reducible refine World.Exts.drew ?_ | with_reducible refine World.Exts.drewN ?_ _ | with_reducible refine World.Exts.ext ?_ _ | with_reducible refine World.Exts.setCell ?_ ?_ _ | (simp; done) | exact World.size_ext_le _ _ | (simp; omega)))⟩
      · have hfin : lexB a b = false := by rw [HK.out]; exact lexB_end (by omega)
        have HF := Lib.hid hfin
        clear hfin
        go_wp2_with fail
        go_ret
        exact ⟨by rw [HF.out]; rfl, (by repeat' (first | with_reducible exact World.Exts.refl _ | with_reducible refine World.Exts.alloc ?_ _ | with_reducible refine World.Exts.drew ?_ | with_reducible refine World.Exts.drewN ?_ _ | with_reducible refine World.Exts.ext ?_ _ | with_reducible refine World.Exts.setCell ?_ ?_ _ | (simp; done) | exact World.size_ext_le _ _ | (simp; omega)))⟩
  · have hfin : beforeB a b = decide (a.length < b.length) := by unfold beforeB; rw [if_pos (by simpa using hne)]
    rw [hfin]
    rcases Nat.lt_or_ge a.length b.length with h | h
    · clear hfin hne
      go_enter Tryz.func47, Tryz.ntmps47
      go_wp2_with fail
      go_ret
      exact ⟨by simp [h], (by repeat' (first | with_reducible exact World.Exts.refl _ | with_reducible refine World.Exts.alloc ?_ _ | with_reducible refine World.Exts.drew ?_ | with_reducible refine World.Exts.drewN ?_ _ | with_reducible refine World.Exts.ext ?_ _ | with_reducible refine World.Exts.setCell ?_ ?_ _ | (simp; done) | exact World.size_ext_le _ _ | (simp; omega)))⟩
    · have h' : b.length < a.length := by omega
      clear hfin hne
      go_enter Tryz.func47, Tryz.ntmps47
      go_wp2_with fail
      go_ret
      exact ⟨by first | rfl | (simp; omega), (by repeat' (first | with_reducible exact World.Exts.refl _ | with_reducible refine World.Exts.alloc ?_ _ | with_reducible refine World.Exts.drew ?_ | with_reducible refine World.Exts.drewN ?_ _ | with_reducible refine World.Exts.ext ?_ _ | with_reducible refine World.Exts.setCell ?_ ?_ _ | (simp; done) | exact World.size_ext_le _ _ | (simp; omega)))⟩
end Go.Proofs.YtomcenfikdmmkaaGreatDoor
